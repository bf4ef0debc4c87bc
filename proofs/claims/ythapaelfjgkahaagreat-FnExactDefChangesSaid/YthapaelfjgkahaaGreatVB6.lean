/- What the program's functions compute, read off their text by the shadow runner (VsDat, VsNames, DTa, DTm0, DTi, DTj, DTk, DTn, VsBound, DTo, DTp, DTq); no condition. -/
import Derived.Laws.Strings
import Derived.Sort.Walk0
import Derived.Test.YthapaelfjgkahaaGreatVB5
section
/- Data of whatever type, as leaves: how much of it there is; how it is counted. -/
set_option linter.unusedVariables false
namespace Go.Vs
theorem wrap_upL {i : Nat} (h : i < maxLen) : IntKind.i64.wrap ((i : Int) + 1) = ((i + 1 : Nat) : Int) := by
  have hm : maxLen = 9223372036854775807 := rfl
  rw [wrap64 (by omega) (by omega)]; rfl
mutual
/-- What is left of a number of bytes; -1: they do not last. -/
def szF : Leaf false → Int → Int
  | .str s, n => if IntKind.i64.wrap (n - (s.size : Int)) < 0 then -1 else IntKind.i64.wrap (n - (s.size : Int))
  | .sl _ es, n => if IntKind.i64.wrap (n - (es.length : Int)) < 0 then -1 else szE es (IntKind.i64.wrap (n - (es.length : Int)))
  | .bool _, n => n
  | .int _ _, n => n
  | .unk, n => n
  | .nl _, n => n
def szL : List (Leaf false) → Int → Int
  | [], n => n
  | l :: r, n => if szF l n < 0 then -1 else szL r (szF l n)
def szE : List (List (Leaf false)) → Int → Int
  | [], n => n
  | e :: es, n => if szL e n < 0 then -1 else szE es (szL e n)
end
theorem szL_append : ∀ (a b : List (Leaf false)) (n : Int), 0 ≤ n → szL (a ++ b) n = if szL a n < 0 then -1 else szL b (szL a n)
  | [], b, n, h => by simp [szL, Int.not_lt.2 h]
  | l :: a, b, n, h => by
    simp only [List.cons_append, szL]
    by_cases h1 : szF l n < 0
    · simp [h1]
    · simp only [h1, if_false]
      exact szL_append a b _ (by omega)
/-! Steps of the functions that count. -/
section
variable {r : List (Leaf false)} {n : Int}
abbrev vint (n : Int) : SV false := .leaf (.int .i64 n)
abbrev vbool (b : Bool) : SV false := .leaf (.bool b)
abbrev vsl (es : List (List (Leaf false))) : SV false := .leaf (.sl fP es)
abbrev Res := Option (SV false × List (List (SV false)))
theorem sz_str {s : ByteArray} {Y : Res} (g : 0 ≤ IntKind.i64.wrap (n - (s.size : Int)) → Y = some (vint (szL r (IntKind.i64.wrap (n - (s.size : Int)))), [])) :
    branch (decide (IntKind.i64.wrap (n - (s.size : Int)) < 0)) (some (SV.leaf (Leaf.int .i64 (-1)), [])) Y = some (vint (szL (.str s :: r) n), []) := by
  rw [branch_ite]
  by_cases h : IntKind.i64.wrap (n - (s.size : Int)) < 0
  · simp [h, szL, szF]
  · simp only [h, decide_false, Bool.false_eq_true, if_false, szL, szF]
    exact g (by omega)
theorem sz_int {k : IntKind} {z : Int} {Y : Res} (hn : 0 ≤ n) (g : Y = some (vint (szL r n), [])) : Y = some (vint (szL (.int k z :: r) n), []) := by
  rw [g]; simp [szL, szF, Int.not_lt.2 hn]
theorem sz_bool {b : Bool} {Y : Res} (hn : 0 ≤ n) (g : Y = some (vint (szL r n), [])) : Y = some (vint (szL (.bool b :: r) n), []) := by
  rw [g]; simp [szL, szF, Int.not_lt.2 hn]
theorem sz_call {d : Res} {a : List (Leaf false)} {Y : Int → Res} (hd : d = some (vint (szL a n), [])) (hn : 0 ≤ n) (g : ∀ k, 0 ≤ k → Y k = some (vint (szL r k), [])) :
    (d.bind fun r => svLeafK r.fst fun l => intK .i64 l fun n => branch (decide (n < 0)) (some (SV.leaf (Leaf.int .i64 (-1)), [])) (Y n)) = some (vint (szL (a ++ r) n), []) := by
  rw [hd, szL_append _ _ _ hn]
  simp only [Option.bind_some, svLeafK_leaf, intK_int, branch_ite]
  by_cases h : szL a n < 0
  · simp [h]
  · simp only [h, decide_false, Bool.false_eq_true, if_false]
    exact g _ (by omega)
theorem sz_callS {d : Res} {es : List (List (Leaf false))} {Y : Int → Res} (hd : d = some (vint (szF (.sl fP es) n), [])) (g : ∀ k, 0 ≤ k → Y k = some (vint (szL r k), [])) :
    (d.bind fun r => svLeafK r.fst fun l => intK .i64 l fun n => branch (decide (n < 0)) (some (SV.leaf (Leaf.int .i64 (-1)), [])) (Y n)) = some (vint (szL (.sl fP es :: r) n), []) := by
  rw [hd]
  simp only [Option.bind_some, svLeafK_leaf, intK_int, branch_ite, szL]
  by_cases h : szF (.sl fP es) n < 0
  · simp [h]
  · simp only [h, decide_false, Bool.false_eq_true, if_false]
    exact g _ (by omega)
theorem sz_len {es : List (List (Leaf false))} {Y : Res} (g : 0 ≤ IntKind.i64.wrap (n - (es.length : Int)) → Y = some (vint (szE es (IntKind.i64.wrap (n - (es.length : Int)))), [])) :
    branch (decide (IntKind.i64.wrap (n - (es.length : Int)) < 0)) (some (SV.leaf (Leaf.int .i64 (-1)), [])) Y = some (vint (szF (.sl fP es) n), []) := by
  rw [branch_ite, szF]
  by_cases h : IntKind.i64.wrap (n - (es.length : Int)) < 0
  · simp [h]
  · simp only [h, decide_false, Bool.false_eq_true, if_false]
    exact g (by omega)
theorem sz_next {e : List (Leaf false)} {es : List (List (Leaf false))} {d : Res} {Y : Int → Res} (hd : d = some (vint (szL e n), [])) (g : ∀ k, 0 ≤ k → Y k = some (vint (szE es k), [])) :
    (d.bind fun r => svLeafK r.fst fun l => intK .i64 l fun n => branch (decide (n < 0)) (some (SV.leaf (Leaf.int .i64 (-1)), [])) (Y n)) = some (vint (szE (e :: es) n), []) := by
  rw [hd]
  simp only [Option.bind_some, svLeafK_leaf, intK_int, branch_ite, szE]
  by_cases h : szL e n < 0
  · simp [h]
  · simp only [h, decide_false, Bool.false_eq_true, if_false]
    exact g _ (by omega)
theorem sz_nextS {s : ByteArray} {es : List (List (Leaf false))} {Y : Res} (g : 0 ≤ IntKind.i64.wrap (n - (s.size : Int)) → Y = some (vint (szE es (IntKind.i64.wrap (n - (s.size : Int)))), [])) :
    branch (decide (IntKind.i64.wrap (n - (s.size : Int)) < 0)) (some (SV.leaf (Leaf.int .i64 (-1)), [])) Y = some (vint (szE ([.str s] :: es) n), []) := by
  rw [branch_ite]
  by_cases h : IntKind.i64.wrap (n - (s.size : Int)) < 0
  · simp [h, szE, szL, szF]
  · simp only [h, decide_false, Bool.false_eq_true, if_false, szE, szL, szF]
    exact g (by omega)
end
/-! How many marks. -/
mutual
def mkF : Leaf false → Int → Int
  | .str _, k => IntKind.i64.wrap (k + 1)
  | .bool _, k => IntKind.i64.wrap (k + 1)
  | .int _ _, k => IntKind.i64.wrap (k + 1)
  | .sl _ es, k => mkE es k
  | .unk, k => k
  | .nl _, k => k
def mkL : List (Leaf false) → Int → Int
  | [], k => k
  | l :: r, k => mkL r (mkF l k)
def mkE : List (List (Leaf false)) → Int → Int
  | [], k => k
  | e :: es, k => mkE es (mkL e k)
end
theorem mkL_append : ∀ (a b : List (Leaf false)) (k : Int), mkL (a ++ b) k = mkL b (mkL a k)
  | [], _, _ => rfl
  | l :: a, b, k => by simp only [List.cons_append, mkL]; exact mkL_append a b _
mutual
/-- Elements, rows within rows. -/
def tF : Leaf false → Nat
  | .sl _ es => es.length + tE es
  | _ => 0
def tL : List (Leaf false) → Nat
  | [] => 0
  | l :: r => tF l + tL r
def tE : List (List (Leaf false)) → Nat
  | [] => 0
  | e :: es => tL e + tE es
end
mutual
/-- No element has more cells than that; texts and rows are not too long. -/
def okF (z : Nat) : Leaf false → Prop
  | .str s => s.size ≤ maxLen
  | .sl _ es => es.length ≤ maxLen ∧ okE z es
  | _ => True
def okL (z : Nat) : List (Leaf false) → Prop
  | [] => True
  | l :: r => okF z l ∧ okL z r
def okE (z : Nat) : List (List (Leaf false)) → Prop
  | [] => True
  | e :: es => e.length ≤ z ∧ okL z e ∧ okE z es
end
def cap : Int := 4611686018427387904
mutual
theorem szF_t {z : Nat} : ∀ (l : Leaf false) (n : Int), okF z l → 0 ≤ n → n ≤ cap → 0 ≤ szF l n → szF l n ≤ n ∧ (tF l : Int) ≤ n - szF l n
  | .str s, n, ho, h0, hn, h => by
    have hm : maxLen = 9223372036854775807 := rfl
    simp only [okF] at ho
    simp only [szF, tF, cap] at *
    rw [wrap64 (by omega) (by omega)] at h ⊢
    split at h <;> simp_all <;> omega
  | .sl _ es, n, ho, h0, hn, h => by
    have hm : maxLen = 9223372036854775807 := rfl
    simp only [okF] at ho
    simp only [szF, tF] at *
    rw [wrap64 (by simp only [cap] at hn; omega) (by simp only [cap] at hn; omega)] at h ⊢
    by_cases hl : n - (es.length : Int) < 0
    · simp [hl] at h
    · simp only [hl, if_false] at h ⊢
      have := szE_t es (n - es.length) ho.2 (by omega) (by omega) h
      omega
  | .bool _, n, _, _, _, _ => by simp [szF, tF]
  | .int _ _, n, _, _, _, _ => by simp [szF, tF]
  | .unk, n, _, _, _, _ => by simp [szF, tF]
  | .nl _, n, _, _, _, _ => by simp [szF, tF]
theorem szL_t {z : Nat} : ∀ (l : List (Leaf false)) (n : Int), okL z l → 0 ≤ n → n ≤ cap → 0 ≤ szL l n → szL l n ≤ n ∧ (tL l : Int) ≤ n - szL l n
  | [], n, _, _, _, _ => by simp [szL, tL]
  | l :: r, n, ho, h0, hn, h => by
    simp only [okL] at ho
    simp only [szL, tL] at *
    by_cases hl : szF l n < 0
    · simp [hl] at h
    · simp only [hl, if_false] at h ⊢
      have h1 := szF_t l n ho.1 h0 hn (by omega)
      have h2 := szL_t r _ ho.2 (by omega) (by omega) h
      omega
theorem szE_t {z : Nat} : ∀ (l : List (List (Leaf false))) (n : Int), okE z l → 0 ≤ n → n ≤ cap → 0 ≤ szE l n → szE l n ≤ n ∧ (tE l : Int) ≤ n - szE l n
  | [], n, _, _, _, _ => by simp [szE, tE]
  | e :: r, n, ho, h0, hn, h => by
    simp only [okE] at ho
    simp only [szE, tE] at *
    by_cases hl : szL e n < 0
    · simp [hl] at h
    · simp only [hl, if_false] at h ⊢
      have h1 := szL_t e n ho.2.1 h0 hn (by omega)
      have h2 := szE_t r _ ho.2.2 (by omega) (by omega) h
      omega
end
mutual
theorem mkF_t {z : Nat} : ∀ (l : Leaf false) (k : Int), okF z l → 0 ≤ k → k + 1 + z * tF l ≤ cap → k ≤ mkF l k ∧ mkF l k ≤ k + 1 + z * tF l
  | .str s, k, _, h0, hn => by simp only [mkF, tF, cap] at *; rw [wrap64 (by omega) (by omega)]; omega
  | .bool s, k, _, h0, hn => by simp only [mkF, tF, cap] at *; rw [wrap64 (by omega) (by omega)]; omega
  | .int _ s, k, _, h0, hn => by simp only [mkF, tF, cap] at *; rw [wrap64 (by omega) (by omega)]; omega
  | .unk, k, _, h0, hn => by simp only [mkF, tF]; omega
  | .nl _, k, _, h0, hn => by simp only [mkF, tF]; omega
  | .sl _ es, k, ho, h0, hn => by
    simp only [okF] at ho
    simp only [mkF, tF] at *
    have e : (z : Int) * ((es.length + tE es : Nat) : Int) = z * es.length + z * tE es := by push_cast; rw [Int.mul_add]
    rw [e] at hn ⊢
    have := mkE_t es k ho.2 h0 (by omega)
    omega
theorem mkL_t {z : Nat} : ∀ (l : List (Leaf false)) (k : Int), okL z l → 0 ≤ k → k + l.length + z * tL l ≤ cap → k ≤ mkL l k ∧ mkL l k ≤ k + l.length + z * tL l
  | [], k, _, _, _ => by simp [mkL, tL]
  | l :: r, k, ho, h0, hn => by
    simp only [okL] at ho
    have e : (z : Int) * ((tF l + tL r : Nat) : Int) = z * tF l + z * tL r := by push_cast; rw [Int.mul_add]
    have e2 : (((l :: r).length : Nat) : Int) = r.length + 1 := by simp
    rw [show tL (l :: r) = tF l + tL r by simp [tL], e, e2] at hn ⊢
    rw [show mkL (l :: r) k = mkL r (mkF l k) by simp [mkL]]
    have p1 : 0 ≤ (z : Int) * tF l := Int.mul_nonneg (by omega) (by omega)
    have p2 : 0 ≤ (z : Int) * tL r := Int.mul_nonneg (by omega) (by omega)
    have h1 := mkF_t l k ho.1 h0 (by omega)
    have h2 := mkL_t r (mkF l k) ho.2 (by omega) (by omega)
    omega
theorem mkE_t {z : Nat} : ∀ (l : List (List (Leaf false))) (k : Int), okE z l → 0 ≤ k → k + z * l.length + z * tE l ≤ cap → k ≤ mkE l k ∧ mkE l k ≤ k + z * l.length + z * tE l
  | [], k, _, _, _ => by simp [mkE, tE]
  | e :: r, k, ho, h0, hn => by
    simp only [okE] at ho
    have e1 : (z : Int) * ((tL e + tE r : Nat) : Int) = z * tL e + z * tE r := by push_cast; rw [Int.mul_add]
    have e2 : (z : Int) * (((e :: r).length : Nat) : Int) = z * r.length + z := by rw [List.length_cons]; push_cast; rw [Int.mul_add, Int.mul_one]
    rw [show tE (e :: r) = tL e + tE r by simp [tE], e1, e2] at hn ⊢
    rw [show mkE (e :: r) k = mkE r (mkL e k) by simp [mkE]]
    have p1 : 0 ≤ (z : Int) * tL e := Int.mul_nonneg (by omega) (by omega)
    have p2 : 0 ≤ (z : Int) * tE r := Int.mul_nonneg (by omega) (by omega)
    have p3 : 0 ≤ (z : Int) * r.length := Int.mul_nonneg (by omega) (by omega)
    have h1 := mkL_t e k ho.2.1 h0 (by omega)
    have h2 := mkE_t r (mkL e k) ho.2.2 (by omega) (by omega)
    omega
end
theorem getD_lt {m : Bool} {l : List (List (Leaf m))} {i : Nat} (h : i < l.length) : l.getD i [] = l[i] := by simp [List.getD, h]
theorem drop_at {α : Type} {l : List α} {i : Nat} (h : i < l.length) : l.drop i = l[i] :: l.drop (i + 1) := List.drop_eq_getElem_cons h
theorem sized_all {m : Bool} {z : Nat} {es : List (List (Leaf m))} (h : ∀ e ∈ es, e.length = z) : sized z es = true := by
  simp only [sized, List.all_eq_true, beq_iff_eq]; exact h
theorem reE_all {m m' : Bool} {φ : Fl m → Fl m'} {z : Nat} {es : List (List (Leaf m))} (h : ∀ e ∈ es, e.length = z) : ∀ e ∈ reE φ es, e.length = z := by
  intro e he
  rw [reE_map] at he
  obtain ⟨x, hx, rfl⟩ := List.mem_map.1 he
  rw [reL_length]; exact h x hx
theorem reE_get {m m' : Bool} {φ : Fl m → Fl m'} {es : List (List (Leaf m))} {i : Nat} (h : i < (reE φ es).length) : (reE φ es)[i] = reL φ (es[i]'(by rwa [reE_length] at h)) := by
  simp only [reE_map, List.getElem_map]
theorem reE_getD {m m' : Bool} {φ : Fl m → Fl m'} {es : List (List (Leaf m))} {i : Nat} (h : i < es.length) : (reE φ es).getD i [] = reL φ es[i] := by
  rw [getD_lt (by rwa [reE_length]), reE_get (by rwa [reE_length])]
theorem soL_map : ∀ l : List (Leaf false), soL l = l.map soF
  | [] => by rw [soL]; rfl
  | l :: r => by rw [soL, List.map_cons, soL_map r]
theorem soE_map : ∀ l : List (List (Leaf false)), soE l = l.map soL
  | [] => by rw [soE]; rfl
  | l :: r => by rw [soE, List.map_cons, soE_map r]
theorem soE_length (l : List (List (Leaf false))) : (soE l).length = l.length := by rw [soE_map, List.length_map]
theorem soE_all {z : Nat} {es : List (List (Leaf false))} (h : ∀ e ∈ es, e.length = z) : ∀ e ∈ soE es, e.length = z := by
  intro e he
  rw [soE_map] at he
  obtain ⟨x, hx, rfl⟩ := List.mem_map.1 he
  rw [soL_map, List.length_map]; exact h x hx
theorem soE_getD {es : List (List (Leaf false))} {i : Nat} (h : i < es.length) : (soE es).getD i [] = soL es[i] := by
  rw [soE_map, List.getD_eq_getElem?_getD, List.getElem?_map, List.getElem?_eq_getElem h]; rfl
theorem okE_of {z : Nat} : ∀ {es : List (List (Leaf false))}, (∀ e ∈ es, e.length ≤ z ∧ okL z e) → okE z es
  | [], _ => by simp [okE]
  | e :: r, h => by
    simp only [okE]
    exact ⟨(h e (by simp)).1, (h e (by simp)).2, okE_of fun x hx => h x (by simp [hx])⟩
theorem tE_mem : ∀ {es : List (List (Leaf false))} {e : List (Leaf false)}, e ∈ es → tL e ≤ tE es
  | x :: r, e, h => by
    simp only [tE]
    rcases List.mem_cons.1 h with rfl | h
    · omega
    · have := tE_mem h; omega
def IsStr (e : List (Leaf false)) : Prop := ∃ s : ByteArray, e = [.str s] ∧ s.size ≤ maxLen
theorem IsStr.len {e : List (Leaf false)} (h : IsStr e) : e.length = 1 := by obtain ⟨s, rfl, _⟩ := h; rfl
theorem IsStr.ok {e : List (Leaf false)} (h : IsStr e) : okL 16 e := by obtain ⟨s, rfl, hs⟩ := h; simp only [okL, okF]; exact ⟨hs, trivial⟩
theorem soft_isSoft : Fl.isSoft fSoft = true := rfl
theorem ite_yes {α : Type} {p : Prop} [Decidable p] {a b : α} (h : p) : (if p then a else b) = a := if_pos h
end Go.Vs
namespace Go.Vs
variable {m : Bool}
/-! Rows that are marked and looked at. -/
theorem putAt_two {v l1 l2 : List (SV m)} {p q : Nat} (hq : q = p + l1.length) (h : p + l1.length + l2.length ≤ v.length) : putAt (putAt v p l1) q l2 = putAt v p (l1 ++ l2) := by
  subst hq
  unfold putAt
  have h1 : (v.take p).length = p := by rw [List.length_take]; omega
  have e1 : (v.take p ++ l1 ++ v.drop (p + l1.length)).take (p + l1.length) = v.take p ++ l1 := by
    rw [List.take_append_of_le_length (by rw [List.length_append, h1]; omega), List.take_of_length_le (by rw [List.length_append, h1]; omega)]
  have e2 : (v.take p ++ l1 ++ v.drop (p + l1.length)).drop (p + l1.length + l2.length) = v.drop (p + (l1.length + l2.length)) := by
    rw [List.drop_append, List.drop_of_length_le (by rw [List.length_append, h1]; omega), List.nil_append, List.drop_drop, List.length_append, h1]
    congr 1; omega
  rw [e1, e2, List.length_append]
  simp only [List.append_assoc]
theorem putAt_length {v l : List (SV m)} {p : Nat} (h : p + l.length ≤ v.length) : (putAt v p l).length = v.length := by
  unfold putAt
  simp only [List.length_append, List.length_take, List.length_drop]
  omega
theorem flatten_get {α : Type} {z : Nat} : ∀ {l : List (List α)} {i o : Nat} (hl : ∀ e ∈ l, e.length = z) (hi : i < l.length) (ho : o < z), l.flatten[i * z + o]? = (l[i])[o]?
  | e :: l, 0, o, hl, hi, ho => by
    rw [List.flatten_cons, List.getElem?_append_left (by rw [hl e (by simp)]; omega)]
    simp
  | e :: l, i + 1, o, hl, hi, ho => by
    have he := hl e (by simp)
    rw [List.flatten_cons, List.getElem?_append_right (by rw [he, Nat.add_mul]; omega), he]
    have : (i + 1) * z + o - z = i * z + o := by rw [Nat.add_mul]; omega
    rw [this, List.getElem_cons_succ]
    exact flatten_get (fun e h => hl e (by simp [h])) (by simpa using hi) ho
theorem atSV_row {β : Type} {l : List (List (Leaf m))} {z : Nat} {r : List (SV m)} {i o p : Nat} (hl : ∀ e ∈ l, e.length = z) (hi : i < l.length) (ho : o < z) (hp : p = i * z + o) (k : SV m → Option β) :
    atSV (rowAt l l.length r) p k = k (.leaf ((l[i])[o]'(by rw [hl _ (List.getElem_mem hi)]; exact ho))) := by
  subst hp
  have hlen : l.flatten.length = l.length * z := flatten_len hl
  have hm : i * z + o < l.flatten.length := by
    rw [hlen]
    have : (i + 1) * z ≤ l.length * z := Nat.mul_le_mul_right z hi
    rw [Nat.add_mul] at this; omega
  unfold atSV rowAt
  rw [List.take_length, List.getElem?_append_left (by rw [List.length_map]; exact hm), List.getElem?_map, flatten_get hl hi ho, List.getElem?_eq_getElem (by rw [hl _ (List.getElem_mem hi)]; exact ho)]
  rfl
theorem rowAt_flat {l : List (List (Leaf m))} {i : Nat} {r : List (SV m)} (h : r.all SV.flat = true) : (rowAt l i r).all SV.flat = true := by
  unfold rowAt
  rw [List.all_append, h, Bool.and_true, List.all_map]
  exact List.all_eq_true.2 fun _ _ => rfl
end Go.Vs
namespace Go.Vs
/-- Marks of a struct's rows; its own cells are another's. -/
def msL : List (Leaf false) → Int → Int
  | [], k => k
  | .sl _ es :: r, k => msL r (mkE es k)
  | .bool _ :: r, k => msL r k
  | .int _ _ :: r, k => msL r k
  | .str _ :: r, k => msL r k
  | .unk :: r, k => msL r k
  | .nl _ :: r, k => msL r k
theorem msL_t {z : Nat} : ∀ (l : List (Leaf false)) (k : Int), okL z l → 0 ≤ k → k + z * tL l ≤ cap → k ≤ msL l k ∧ msL l k ≤ k + z * tL l
  | [], k, _, _, _ => by simp [msL, tL]
  | .sl c es :: r, k, ho, h0, hn => by
    simp only [okL, okF] at ho
    have e1 : (z : Int) * ((tL (.sl c es :: r) : Nat) : Int) = z * es.length + z * tE es + z * tL r := by
      rw [show tL (.sl c es :: r) = es.length + tE es + tL r by simp [tL, tF]]
      push_cast; rw [Int.mul_add, Int.mul_add]
    rw [e1] at hn ⊢
    rw [show msL (.sl c es :: r) k = msL r (mkE es k) by simp [msL]]
    have p1 : 0 ≤ (z : Int) * es.length := Int.mul_nonneg (by omega) (by omega)
    have p2 : 0 ≤ (z : Int) * tE es := Int.mul_nonneg (by omega) (by omega)
    have p3 : 0 ≤ (z : Int) * tL r := Int.mul_nonneg (by omega) (by omega)
    have h1 := mkE_t es k ho.1.2 h0 (by omega)
    have h2 := msL_t r (mkE es k) ho.2 (by omega) (by omega)
    omega
  | .bool b :: r, k, ho, h0, hn => by
    simp only [okL] at ho
    have e : tL (.bool b :: r) = tL r := by simp [tL, tF]
    rw [e] at hn ⊢
    exact msL_t r k ho.2 h0 hn
  | .int kk b :: r, k, ho, h0, hn => by
    simp only [okL] at ho
    have e : tL (.int kk b :: r) = tL r := by simp [tL, tF]
    rw [e] at hn ⊢
    exact msL_t r k ho.2 h0 hn
  | .str b :: r, k, ho, h0, hn => by
    simp only [okL] at ho
    have e : tL (.str b :: r) = tL r := by simp [tL, tF]
    rw [e] at hn ⊢
    exact msL_t r k ho.2 h0 hn
  | .unk :: r, k, ho, h0, hn => by
    simp only [okL] at ho
    have e : tL (.unk :: r) = tL r := by simp [tL, tF]
    rw [e] at hn ⊢
    exact msL_t r k ho.2 h0 hn
  | .nl b :: r, k, ho, h0, hn => by
    simp only [okL] at ho
    have e : tL (.nl b :: r) = tL r := by simp [tL, tF]
    rw [e] at hn ⊢
    exact msL_t r k ho.2 h0 hn
end Go.Vs
end
section
/- Rows of texts: rising, joined, looked at by halves. No program in sight. -/
set_option linter.unusedVariables false
namespace Go.Vs
def strAt (e : List (Leaf false)) (p : Nat) : ByteArray := match e[p]? with | some (.str s) => s | _ => ⟨#[]⟩
abbrev El := List (Leaf false)
def key (e : El) : List UInt8 := (strAt e 0).toList
theorem leT {a b c : List UInt8} (h : a ≤ b) (k : b ≤ c) : a ≤ c := List.le_trans h k
theorem leR (a : List UInt8) : a ≤ a := List.le_refl a
theorem leN {a b : List UInt8} (h : ¬ a ≤ b) : b ≤ a := (List.le_total a b).resolve_left h
theorem leA {a b : List UInt8} (h : a ≤ b) (k : b ≤ a) : a = b := List.le_antisymm h k
theorem ltI {a b : List UInt8} : ¬ a < b ↔ b ≤ a := List.not_lt
def Rising (l : List El) : Prop := l.Pairwise fun a b => key a ≤ key b
def push (out : List El) (x : El) : List El := if (out.getLast?.map key) = some (key x) then out else out ++ [x]
theorem push_mem {out : List El} {x : El} {s : List UInt8} : (∃ e ∈ push out x, key e = s) ↔ (∃ e ∈ out, key e = s) ∨ key x = s := by
  unfold push
  split
  · rename_i h
    rw [Option.map_eq_some_iff] at h
    obtain ⟨l, hl, hk⟩ := h
    constructor
    · exact .inl
    · rintro (h | h)
      · exact h
      · exact ⟨l, List.mem_of_getLast? hl, hk.trans h⟩
  · constructor
    · rintro ⟨e, he, hs⟩
      rcases List.mem_append.1 he with he | he
      · exact .inl ⟨e, he, hs⟩
      · rw [List.mem_singleton.1 he] at hs; exact .inr hs
    · rintro (⟨e, he, hs⟩ | h)
      · exact ⟨e, List.mem_append_left _ he, hs⟩
      · exact ⟨x, by simp, h⟩
theorem push_sub {out : List El} {x e : El} (h : e ∈ push out x) : e ∈ out ∨ e = x := by
  unfold push at h
  split at h
  · exact .inl h
  · rcases List.mem_append.1 h with h | h
    · exact .inl h
    · exact .inr (List.mem_singleton.1 h)
theorem push_len (out : List El) (x : El) : (push out x).length ≤ out.length + 1 := by unfold push; split <;> simp
theorem push_rising {out : List El} {x : El} (h : Rising out) (hx : ∀ o ∈ out, key o ≤ key x) : Rising (push out x) := by
  unfold push
  split
  · exact h
  · exact List.pairwise_append.2 ⟨h, by simp, fun a ha b hb => by rw [List.mem_singleton.1 hb]; exact hx a ha⟩
/-- Two rising rows in one. -/
def fin (xs ys out : List El) : List El := match xs, ys with
  | [], [] => out
  | x :: xs, [] => fin xs [] (push out x)
  | [], y :: ys => fin [] ys (push out y)
  | x :: xs, y :: ys => if key x ≤ key y then fin xs (y :: ys) (push out x) else fin (x :: xs) ys (push out y)
termination_by xs.length + ys.length
structure Joins (xs ys out r : List El) : Prop where
  up : Rising r
  mem : ∀ s, (∃ e ∈ r, key e = s) ↔ (∃ e ∈ out, key e = s) ∨ (∃ e ∈ xs, key e = s) ∨ ∃ e ∈ ys, key e = s
  len : r.length ≤ out.length + xs.length + ys.length
  sub : ∀ e ∈ r, e ∈ out ∨ e ∈ xs ∨ e ∈ ys
theorem fin_joins : ∀ (n : Nat) (xs ys out : List El), xs.length + ys.length = n → Rising xs → Rising ys → Rising out → (∀ o ∈ out, ∀ x ∈ xs, key o ≤ key x) → (∀ o ∈ out, ∀ y ∈ ys, key o ≤ key y) → Joins xs ys out (fin xs ys out) := by
  intro n
  induction n using Nat.strongRecOn with
  | ind n ih =>
    intro xs ys out hn hx hy ho h1 h2
    match xs, ys with
    | [], [] => unfold fin; exact ⟨ho, fun s => by simp, by simp, fun e he => .inl he⟩
    | x :: xs, [] =>
      unfold fin
      have hx' := List.pairwise_cons.1 hx
      have j := ih (xs.length + 0) (by simp at hn; omega) xs [] (push out x) rfl hx'.2 hy (push_rising ho fun o h => h1 o h x (by simp)) (fun o h z hz => by
        rcases push_sub h with h | rfl
        · exact h1 o h z (by simp [hz])
        · exact hx'.1 z hz) (fun o h z hz => by simp at hz)
      refine ⟨j.up, fun s => ?_, by have := j.len; have := push_len out x; simp at *; omega, fun e he => ?_⟩
      · rw [j.mem, push_mem]; simp [or_assoc]
      · rcases j.sub e he with h | h | h
        · rcases push_sub h with h | rfl
          · exact .inl h
          · exact .inr (.inl (by simp))
        · exact .inr (.inl (by simp [h]))
        · simp at h
    | [], y :: ys =>
      unfold fin
      have hy' := List.pairwise_cons.1 hy
      have j := ih (0 + ys.length) (by simp at hn; omega) [] ys (push out y) rfl hx hy'.2 (push_rising ho fun o h => h2 o h y (by simp)) (fun o h z hz => by simp at hz) (fun o h z hz => by
        rcases push_sub h with h | rfl
        · exact h2 o h z (by simp [hz])
        · exact hy'.1 z hz)
      refine ⟨j.up, fun s => ?_, by have := j.len; have := push_len out y; simp at *; omega, fun e he => ?_⟩
      · rw [j.mem, push_mem]; simp [or_assoc]
      · rcases j.sub e he with h | h | h
        · rcases push_sub h with h | rfl
          · exact .inl h
          · exact .inr (.inr (by simp))
        · simp at h
        · exact .inr (.inr (by simp [h]))
    | x :: xs, y :: ys =>
      have hx' := List.pairwise_cons.1 hx
      have hy' := List.pairwise_cons.1 hy
      unfold fin
      by_cases hc : key x ≤ key y
      · rw [if_pos hc]
        have j := ih (xs.length + (y :: ys).length) (by simp at hn ⊢; omega) xs (y :: ys) (push out x) rfl hx'.2 hy (push_rising ho fun o h => h1 o h x (by simp)) (fun o h z hz => by
          rcases push_sub h with h | rfl
          · exact h1 o h z (by simp [hz])
          · exact hx'.1 z hz) (fun o h z hz => by
          rcases push_sub h with h | rfl
          · exact h2 o h z hz
          · rcases List.mem_cons.1 hz with rfl | hz
            · exact hc
            · exact leT hc (hy'.1 z hz))
        refine ⟨j.up, fun s => ?_, by have := j.len; have := push_len out x; simp at *; omega, fun e he => ?_⟩
        · rw [j.mem, push_mem]; simp [or_assoc]
        · rcases j.sub e he with h | h | h
          · rcases push_sub h with h | rfl
            · exact .inl h
            · exact .inr (.inl (by simp))
          · exact .inr (.inl (by simp [h]))
          · exact .inr (.inr h)
      · rw [if_neg hc]
        have hc' := leN hc
        have j := ih ((x :: xs).length + ys.length) (by simp at hn ⊢; omega) (x :: xs) ys (push out y) rfl hx hy'.2 (push_rising ho fun o h => h2 o h y (by simp)) (fun o h z hz => by
          rcases push_sub h with h | rfl
          · exact h1 o h z hz
          · rcases List.mem_cons.1 hz with rfl | hz
            · exact hc'
            · exact leT hc' (hx'.1 z hz)) (fun o h z hz => by
          rcases push_sub h with h | rfl
          · exact h2 o h z (by simp [hz])
          · exact hy'.1 z hz)
        refine ⟨j.up, fun s => ?_, by have := j.len; have := push_len out y; simp at *; omega, fun e he => ?_⟩
        · rw [j.mem, push_mem]
          simp only [List.mem_cons, exists_eq_or_imp]
          constructor
          · rintro ((h | h) | h | h) <;> simp [h]
          · rintro (h | (h | h) | h | h) <;> simp [h]
        · rcases j.sub e he with h | h | h
          · rcases push_sub h with h | rfl
            · exact .inl h
            · exact .inr (.inr (by simp))
          · exact .inr (.inl h)
          · exact .inr (.inr (by simp [h]))
/-- Looked at by halves: where all before lo are less, and none from hi on is. -/
theorem halves {l : List El} (hr : Rising l) {s : List UInt8} {lo : Nat} (hlo : ∀ (j : Nat) (h : j < l.length), j < lo → key l[j] < s) (hhi : ∀ (j : Nat) (h : j < l.length), lo ≤ j → s ≤ key l[j]) :
    (∃ e ∈ l, key e = s) ↔ ∃ h : lo < l.length, key l[lo] = s := by
  constructor
  · rintro ⟨e, he, hs⟩
    obtain ⟨j, hj, rfl⟩ := List.getElem_of_mem he
    have hjl : lo ≤ j := by
      rcases Nat.lt_or_ge j lo with h | h
      · have := hlo j hj h
        rw [hs] at this
        exact absurd this (ltI.2 (leR s))
      · exact h
    have hlt : lo < l.length := Nat.lt_of_le_of_lt hjl hj
    refine ⟨hlt, leA ?_ (hhi lo hlt (Nat.le_refl _))⟩
    rw [← hs]
    rcases Nat.eq_or_lt_of_le hjl with h | h
    · subst h; exact leR _
    · exact (List.pairwise_iff_getElem.1 hr) lo j hlt hj h
  · rintro ⟨h, hs⟩; exact ⟨l[lo], List.getElem_mem h, hs⟩
theorem rising_at {l : List El} (hr : Rising l) {i j : Nat} (h : i ≤ j) (hj : j < l.length) : key l[i] ≤ key l[j] := by
  rcases Nat.eq_or_lt_of_le h with h | h
  · subst h; exact leR _
  · exact (List.pairwise_iff_getElem.1 hr) i j (by omega) hj h
end Go.Vs
end
section
open Go Go.Vs Go.Proofs
set_option linter.unusedVariables false
set_option linter.unusedSimpArgs false
namespace Go.Vs
noncomputable abbrev Dn : Oracle false := den Go.Proofs.Tryz.prog (fun _ => none) Hs
theorem den_of {f : FuncId} {a : List (SV false)} {b : List (List (SV false))} {r : SV false × List (List (SV false))} (h : run2V Go.Proofs.Tryz.prog Dn Hs limR f a b = some r) : Dn f a b = some r :=
  den_fast rfl h
inductive IsType : List (Leaf false) → Prop
  | mk (s0 : ByteArray) (s1 : ByteArray) (h0 : s0.size ≤ maxLen) (h1 : s1.size ≤ maxLen) : IsType [.str s0, .str s1]
theorem IsType.ex {ls : List (Leaf false)} (h : IsType ls) : ∃ (s0 : ByteArray) (s1 : ByteArray), ls = [.str s0, .str s1] ∧ s0.size ≤ maxLen ∧ s1.size ≤ maxLen := by
  cases h with
  | mk s0 s1 h0 h1 => exact ⟨s0, s1, rfl, h0, h1⟩
theorem IsType.len {ls : List (Leaf false)} (h : IsType ls) : ls.length = 2 := by cases h; rfl
theorem IsType.ok {ls : List (Leaf false)} (h : IsType ls) : okL 16 ls := by
  cases h with
  | mk s0 s1 h0 h1 => simp only [okL, okF]; exact ⟨h0, h1, trivial⟩
inductive IsValue : List (Leaf false) → Prop
  | mk (i0 : Int) (s1 : ByteArray) (e2 : List (List (Leaf false))) (e3 : List (List (Leaf false))) (h1 : s1.size ≤ maxLen) (h2 : e2.length ≤ maxLen) (q2 : ∀ e ∈ e2, IsValue e) (h3 : e3.length ≤ maxLen) (q3 : ∀ e ∈ e3, IsStr e) : IsValue [.int .i64 i0, .str s1, .sl fP e2, .sl fP e3]
theorem IsValue.ex {ls : List (Leaf false)} (h : IsValue ls) : ∃ (i0 : Int) (s1 : ByteArray) (e2 : List (List (Leaf false))) (e3 : List (List (Leaf false))), ls = [.int .i64 i0, .str s1, .sl fP e2, .sl fP e3] ∧ s1.size ≤ maxLen ∧ e2.length ≤ maxLen ∧ (∀ e ∈ e2, IsValue e) ∧ e3.length ≤ maxLen ∧ (∀ e ∈ e3, IsStr e) := by
  cases h with
  | mk i0 s1 e2 e3 h1 h2 q2 h3 q3 => exact ⟨i0, s1, e2, e3, rfl, h1, h2, q2, h3, q3⟩
theorem IsValue.len {ls : List (Leaf false)} (h : IsValue ls) : ls.length = 4 := by cases h; rfl
theorem IsValue.ok {ls : List (Leaf false)} (h : IsValue ls) : okL 16 ls := by
  induction h with
  | mk i0 s1 e2 e3 h1 h2 q2 h3 q3 ih2 => simp only [okL, okF]; exact ⟨trivial, h1, ⟨h2, okE_of fun e he => ⟨by have := (q2 e he).len; omega, ih2 e he⟩⟩, ⟨h3, okE_of fun e he => ⟨by have := (q3 e he).len; omega, (q3 e he).ok⟩⟩, trivial⟩
inductive IsArg : List (Leaf false) → Prop
  | mk (s0 : ByteArray) (i1 : Int) (s2 : ByteArray) (e3 : List (List (Leaf false))) (e4 : List (List (Leaf false))) (h0 : s0.size ≤ maxLen) (h2 : s2.size ≤ maxLen) (h3 : e3.length ≤ maxLen) (q3 : ∀ e ∈ e3, IsValue e) (h4 : e4.length ≤ maxLen) (q4 : ∀ e ∈ e4, IsStr e) : IsArg [.str s0, .int .i64 i1, .str s2, .sl fP e3, .sl fP e4]
theorem IsArg.ex {ls : List (Leaf false)} (h : IsArg ls) : ∃ (s0 : ByteArray) (i1 : Int) (s2 : ByteArray) (e3 : List (List (Leaf false))) (e4 : List (List (Leaf false))), ls = [.str s0, .int .i64 i1, .str s2, .sl fP e3, .sl fP e4] ∧ s0.size ≤ maxLen ∧ s2.size ≤ maxLen ∧ e3.length ≤ maxLen ∧ (∀ e ∈ e3, IsValue e) ∧ e4.length ≤ maxLen ∧ (∀ e ∈ e4, IsStr e) := by
  cases h with
  | mk s0 i1 s2 e3 e4 h0 h2 h3 q3 h4 q4 => exact ⟨s0, i1, s2, e3, e4, rfl, h0, h2, h3, q3, h4, q4⟩
theorem IsArg.len {ls : List (Leaf false)} (h : IsArg ls) : ls.length = 5 := by cases h; rfl
theorem IsArg.ok {ls : List (Leaf false)} (h : IsArg ls) : okL 16 ls := by
  cases h with
  | mk s0 i1 s2 e3 e4 h0 h2 h3 q3 h4 q4 => simp only [okL, okF]; exact ⟨h0, trivial, h2, ⟨h3, okE_of fun e he => ⟨by have := (q3 e he).len; omega, (q3 e he).ok⟩⟩, ⟨h4, okE_of fun e he => ⟨by have := (q4 e he).len; omega, (q4 e he).ok⟩⟩, trivial⟩
inductive IsDir : List (Leaf false) → Prop
  | mk (s0 : ByteArray) (e1 : List (List (Leaf false))) (h0 : s0.size ≤ maxLen) (h1 : e1.length ≤ maxLen) (q1 : ∀ e ∈ e1, IsArg e) : IsDir [.str s0, .sl fP e1]
theorem IsDir.ex {ls : List (Leaf false)} (h : IsDir ls) : ∃ (s0 : ByteArray) (e1 : List (List (Leaf false))), ls = [.str s0, .sl fP e1] ∧ s0.size ≤ maxLen ∧ e1.length ≤ maxLen ∧ (∀ e ∈ e1, IsArg e) := by
  cases h with
  | mk s0 e1 h0 h1 q1 => exact ⟨s0, e1, rfl, h0, h1, q1⟩
theorem IsDir.len {ls : List (Leaf false)} (h : IsDir ls) : ls.length = 2 := by cases h; rfl
theorem IsDir.ok {ls : List (Leaf false)} (h : IsDir ls) : okL 16 ls := by
  cases h with
  | mk s0 e1 h0 h1 q1 => simp only [okL, okF]; exact ⟨h0, ⟨h1, okE_of fun e he => ⟨by have := (q1 e he).len; omega, (q1 e he).ok⟩⟩, trivial⟩
inductive IsInDef : List (Leaf false) → Prop
  | mk (s0 : ByteArray) (s1 : ByteArray) (s2 : ByteArray) (s3 : ByteArray) (b4 : Bool) (i5 : Int) (s6 : ByteArray) (e7 : List (List (Leaf false))) (e8 : List (List (Leaf false))) (e9 : List (List (Leaf false))) (h0 : s0.size ≤ maxLen) (h1 : s1.size ≤ maxLen) (h2 : s2.size ≤ maxLen) (h3 : s3.size ≤ maxLen) (h6 : s6.size ≤ maxLen) (h7 : e7.length ≤ maxLen) (q7 : ∀ e ∈ e7, IsValue e) (h8 : e8.length ≤ maxLen) (q8 : ∀ e ∈ e8, IsStr e) (h9 : e9.length ≤ maxLen) (q9 : ∀ e ∈ e9, IsDir e) : IsInDef [.str s0, .str s1, .str s2, .str s3, .bool b4, .int .i64 i5, .str s6, .sl fP e7, .sl fP e8, .sl fP e9]
theorem IsInDef.ex {ls : List (Leaf false)} (h : IsInDef ls) : ∃ (s0 : ByteArray) (s1 : ByteArray) (s2 : ByteArray) (s3 : ByteArray) (b4 : Bool) (i5 : Int) (s6 : ByteArray) (e7 : List (List (Leaf false))) (e8 : List (List (Leaf false))) (e9 : List (List (Leaf false))), ls = [.str s0, .str s1, .str s2, .str s3, .bool b4, .int .i64 i5, .str s6, .sl fP e7, .sl fP e8, .sl fP e9] ∧ s0.size ≤ maxLen ∧ s1.size ≤ maxLen ∧ s2.size ≤ maxLen ∧ s3.size ≤ maxLen ∧ s6.size ≤ maxLen ∧ e7.length ≤ maxLen ∧ (∀ e ∈ e7, IsValue e) ∧ e8.length ≤ maxLen ∧ (∀ e ∈ e8, IsStr e) ∧ e9.length ≤ maxLen ∧ (∀ e ∈ e9, IsDir e) := by
  cases h with
  | mk s0 s1 s2 s3 b4 i5 s6 e7 e8 e9 h0 h1 h2 h3 h6 h7 q7 h8 q8 h9 q9 => exact ⟨s0, s1, s2, s3, b4, i5, s6, e7, e8, e9, rfl, h0, h1, h2, h3, h6, h7, q7, h8, q8, h9, q9⟩
theorem IsInDef.len {ls : List (Leaf false)} (h : IsInDef ls) : ls.length = 10 := by cases h; rfl
theorem IsInDef.ok {ls : List (Leaf false)} (h : IsInDef ls) : okL 16 ls := by
  cases h with
  | mk s0 s1 s2 s3 b4 i5 s6 e7 e8 e9 h0 h1 h2 h3 h6 h7 q7 h8 q8 h9 q9 => simp only [okL, okF]; exact ⟨h0, h1, h2, h3, trivial, trivial, h6, ⟨h7, okE_of fun e he => ⟨by have := (q7 e he).len; omega, (q7 e he).ok⟩⟩, ⟨h8, okE_of fun e he => ⟨by have := (q8 e he).len; omega, (q8 e he).ok⟩⟩, ⟨h9, okE_of fun e he => ⟨by have := (q9 e he).len; omega, (q9 e he).ok⟩⟩, trivial⟩
inductive IsFieldDef : List (Leaf false) → Prop
  | mk (s0 : ByteArray) (s1 : ByteArray) (e2 : List (List (Leaf false))) (s3 : ByteArray) (s4 : ByteArray) (e5 : List (List (Leaf false))) (h0 : s0.size ≤ maxLen) (h1 : s1.size ≤ maxLen) (h2 : e2.length ≤ maxLen) (q2 : ∀ e ∈ e2, IsInDef e) (h3 : s3.size ≤ maxLen) (h4 : s4.size ≤ maxLen) (h5 : e5.length ≤ maxLen) (q5 : ∀ e ∈ e5, IsDir e) : IsFieldDef [.str s0, .str s1, .sl fP e2, .str s3, .str s4, .sl fP e5]
theorem IsFieldDef.ex {ls : List (Leaf false)} (h : IsFieldDef ls) : ∃ (s0 : ByteArray) (s1 : ByteArray) (e2 : List (List (Leaf false))) (s3 : ByteArray) (s4 : ByteArray) (e5 : List (List (Leaf false))), ls = [.str s0, .str s1, .sl fP e2, .str s3, .str s4, .sl fP e5] ∧ s0.size ≤ maxLen ∧ s1.size ≤ maxLen ∧ e2.length ≤ maxLen ∧ (∀ e ∈ e2, IsInDef e) ∧ s3.size ≤ maxLen ∧ s4.size ≤ maxLen ∧ e5.length ≤ maxLen ∧ (∀ e ∈ e5, IsDir e) := by
  cases h with
  | mk s0 s1 e2 s3 s4 e5 h0 h1 h2 q2 h3 h4 h5 q5 => exact ⟨s0, s1, e2, s3, s4, e5, rfl, h0, h1, h2, q2, h3, h4, h5, q5⟩
theorem IsFieldDef.len {ls : List (Leaf false)} (h : IsFieldDef ls) : ls.length = 6 := by cases h; rfl
theorem IsFieldDef.ok {ls : List (Leaf false)} (h : IsFieldDef ls) : okL 16 ls := by
  cases h with
  | mk s0 s1 e2 s3 s4 e5 h0 h1 h2 q2 h3 h4 h5 q5 => simp only [okL, okF]; exact ⟨h0, h1, ⟨h2, okE_of fun e he => ⟨by have := (q2 e he).len; omega, (q2 e he).ok⟩⟩, h3, h4, ⟨h5, okE_of fun e he => ⟨by have := (q5 e he).len; omega, (q5 e he).ok⟩⟩, trivial⟩
inductive IsEnumDef : List (Leaf false) → Prop
  | mk (s0 : ByteArray) (s1 : ByteArray) (e2 : List (List (Leaf false))) (h0 : s0.size ≤ maxLen) (h1 : s1.size ≤ maxLen) (h2 : e2.length ≤ maxLen) (q2 : ∀ e ∈ e2, IsDir e) : IsEnumDef [.str s0, .str s1, .sl fP e2]
theorem IsEnumDef.ex {ls : List (Leaf false)} (h : IsEnumDef ls) : ∃ (s0 : ByteArray) (s1 : ByteArray) (e2 : List (List (Leaf false))), ls = [.str s0, .str s1, .sl fP e2] ∧ s0.size ≤ maxLen ∧ s1.size ≤ maxLen ∧ e2.length ≤ maxLen ∧ (∀ e ∈ e2, IsDir e) := by
  cases h with
  | mk s0 s1 e2 h0 h1 h2 q2 => exact ⟨s0, s1, e2, rfl, h0, h1, h2, q2⟩
theorem IsEnumDef.len {ls : List (Leaf false)} (h : IsEnumDef ls) : ls.length = 3 := by cases h; rfl
theorem IsEnumDef.ok {ls : List (Leaf false)} (h : IsEnumDef ls) : okL 16 ls := by
  cases h with
  | mk s0 s1 e2 h0 h1 h2 q2 => simp only [okL, okF]; exact ⟨h0, h1, ⟨h2, okE_of fun e he => ⟨by have := (q2 e he).len; omega, (q2 e he).ok⟩⟩, trivial⟩
inductive IsRoot : List (Leaf false) → Prop
  | mk (i0 : Int) (s1 : ByteArray) (h1 : s1.size ≤ maxLen) : IsRoot [.int .i64 i0, .str s1]
theorem IsRoot.ex {ls : List (Leaf false)} (h : IsRoot ls) : ∃ (i0 : Int) (s1 : ByteArray), ls = [.int .i64 i0, .str s1] ∧ s1.size ≤ maxLen := by
  cases h with
  | mk i0 s1 h1 => exact ⟨i0, s1, rfl, h1⟩
theorem IsRoot.len {ls : List (Leaf false)} (h : IsRoot ls) : ls.length = 2 := by cases h; rfl
theorem IsRoot.ok {ls : List (Leaf false)} (h : IsRoot ls) : okL 16 ls := by
  cases h with
  | mk i0 s1 h1 => simp only [okL, okF]; exact ⟨trivial, h1, trivial⟩
inductive IsDef : List (Leaf false) → Prop
  | mk (i0 : Int) (b1 : Bool) (s2 : ByteArray) (s3 : ByteArray) (e4 : List (List (Leaf false))) (e5 : List (List (Leaf false))) (e6 : List (List (Leaf false))) (e7 : List (List (Leaf false))) (e8 : List (List (Leaf false))) (b9 : Bool) (e10 : List (List (Leaf false))) (h2 : s2.size ≤ maxLen) (h3 : s3.size ≤ maxLen) (h4 : e4.length ≤ maxLen) (q4 : ∀ e ∈ e4, IsStr e) (h5 : e5.length ≤ maxLen) (q5 : ∀ e ∈ e5, IsFieldDef e) (h6 : e6.length ≤ maxLen) (q6 : ∀ e ∈ e6, IsInDef e) (h7 : e7.length ≤ maxLen) (q7 : ∀ e ∈ e7, IsEnumDef e) (h8 : e8.length ≤ maxLen) (q8 : ∀ e ∈ e8, IsRoot e) (h10 : e10.length ≤ maxLen) (q10 : ∀ e ∈ e10, IsDir e) : IsDef [.int .i64 i0, .bool b1, .str s2, .str s3, .sl fP e4, .sl fP e5, .sl fP e6, .sl fP e7, .sl fP e8, .bool b9, .sl fP e10]
theorem IsDef.ex {ls : List (Leaf false)} (h : IsDef ls) : ∃ (i0 : Int) (b1 : Bool) (s2 : ByteArray) (s3 : ByteArray) (e4 : List (List (Leaf false))) (e5 : List (List (Leaf false))) (e6 : List (List (Leaf false))) (e7 : List (List (Leaf false))) (e8 : List (List (Leaf false))) (b9 : Bool) (e10 : List (List (Leaf false))), ls = [.int .i64 i0, .bool b1, .str s2, .str s3, .sl fP e4, .sl fP e5, .sl fP e6, .sl fP e7, .sl fP e8, .bool b9, .sl fP e10] ∧ s2.size ≤ maxLen ∧ s3.size ≤ maxLen ∧ e4.length ≤ maxLen ∧ (∀ e ∈ e4, IsStr e) ∧ e5.length ≤ maxLen ∧ (∀ e ∈ e5, IsFieldDef e) ∧ e6.length ≤ maxLen ∧ (∀ e ∈ e6, IsInDef e) ∧ e7.length ≤ maxLen ∧ (∀ e ∈ e7, IsEnumDef e) ∧ e8.length ≤ maxLen ∧ (∀ e ∈ e8, IsRoot e) ∧ e10.length ≤ maxLen ∧ (∀ e ∈ e10, IsDir e) := by
  cases h with
  | mk i0 b1 s2 s3 e4 e5 e6 e7 e8 b9 e10 h2 h3 h4 q4 h5 q5 h6 q6 h7 q7 h8 q8 h10 q10 => exact ⟨i0, b1, s2, s3, e4, e5, e6, e7, e8, b9, e10, rfl, h2, h3, h4, q4, h5, q5, h6, q6, h7, q7, h8, q8, h10, q10⟩
theorem IsDef.len {ls : List (Leaf false)} (h : IsDef ls) : ls.length = 11 := by cases h; rfl
theorem IsDef.ok {ls : List (Leaf false)} (h : IsDef ls) : okL 16 ls := by
  cases h with
  | mk i0 b1 s2 s3 e4 e5 e6 e7 e8 b9 e10 h2 h3 h4 q4 h5 q5 h6 q6 h7 q7 h8 q8 h10 q10 => simp only [okL, okF]; exact ⟨trivial, trivial, h2, h3, ⟨h4, okE_of fun e he => ⟨by have := (q4 e he).len; omega, (q4 e he).ok⟩⟩, ⟨h5, okE_of fun e he => ⟨by have := (q5 e he).len; omega, (q5 e he).ok⟩⟩, ⟨h6, okE_of fun e he => ⟨by have := (q6 e he).len; omega, (q6 e he).ok⟩⟩, ⟨h7, okE_of fun e he => ⟨by have := (q7 e he).len; omega, (q7 e he).ok⟩⟩, ⟨h8, okE_of fun e he => ⟨by have := (q8 e he).len; omega, (q8 e he).ok⟩⟩, trivial, ⟨h10, okE_of fun e he => ⟨by have := (q10 e he).len; omega, (q10 e he).ok⟩⟩, trivial⟩
inductive IsChange : List (Leaf false) → Prop
  | mk (i0 : Int) (s1 : ByteArray) (s2 : ByteArray)  : IsChange [.int .i64 i0, .str s1, .str s2]
theorem IsChange.ex {ls : List (Leaf false)} (h : IsChange ls) : ∃ (i0 : Int) (s1 : ByteArray) (s2 : ByteArray), ls = [.int .i64 i0, .str s1, .str s2] := by
  cases h with
  | mk i0 s1 s2  => exact ⟨i0, s1, s2, rfl⟩
theorem IsChange.len {ls : List (Leaf false)} (h : IsChange ls) : ls.length = 3 := by cases h; rfl

end Go.Vs
end
section
open Go Go.Vs Go.Proofs
set_option linter.unusedVariables false
set_option linter.unusedSimpArgs false
namespace Go.Vs
theorem wrap_le {x : Int} (h : 0 ≤ x) : IntKind.i64.wrap x ≤ x := by
  have e : IntKind.i64.wrap x = if x % 18446744073709551616 ≥ 9223372036854775808 then x % 18446744073709551616 - 18446744073709551616 else x % 18446744073709551616 := by
    simp [IntKind.wrap, IntKind.signed, IntKind.bits]
  rw [e]
  split <;> omega
theorem markText_from : ∀ (n : Nat) (i0 : Int) (s3 : ByteArray), i0 < 10 ^ n → s3.size + n + 1 ≤ 140737488355328 → ∃ s : ByteArray, laws_markText_A Dn (laws_markText_0 i0 s3) = some (.leaf (.str s), [])
  | 0, i0, s3, h, hs => by
    have h0 : ¬ i0 > 0 := by simp at h; omega
    rw [laws_markText_0_eq]
    have h1 : (ByteArray.mk #[109]).size + s3.size ≤ 140737488355328 := by have : (ByteArray.mk #[109]).size = 1 := rfl; omega
    simp only [h0, decide_false, branch_false, h1, decide_true, guarded_true]
    exact ⟨_, rfl⟩
  | n + 1, i0, s3, h, hs => by
    rw [laws_markText_0_eq]
    by_cases h0 : i0 > 0
    · have hz : ∀ x : UInt8, (ByteArray.mk #[x]).size = 1 := fun _ => rfl
      have h2 : IntKind.i64.wrap (i0.tdiv 10) < 10 ^ n := by
        have h3 : 0 ≤ i0.tdiv 10 := Int.tdiv_nonneg (by omega) (by omega)
        have h4 := wrap_le h3
        have h5 : i0.tdiv 10 < 10 ^ n := by
          rw [Int.tdiv_eq_ediv_of_nonneg (by omega)]
          rw [Int.pow_succ] at h
          omega
        omega
      simp only [h0, decide_true, branch_true, List.map_cons, List.map_nil, hz, show 1 + s3.size ≤ 140737488355328 by omega, guarded_true]
      exact markText_from n _ _ h2 (by rw [ByteArray.size_append, hz]; omega)
    · have h1 : (ByteArray.mk #[109]).size + s3.size ≤ 140737488355328 := by have : (ByteArray.mk #[109]).size = 1 := rfl; omega
      simp only [h0, decide_false, branch_false, h1, decide_true, guarded_true]
      exact ⟨_, rfl⟩
theorem markText_ex (k : Int) : ∃ s : ByteArray, Dn F.laws_markText [vint k] [] = some (.leaf (.str s), []) := by
  have key : ∃ s : ByteArray, run2V Go.Proofs.Tryz.prog Dn Hs limR F.laws_markText [vint k] [] = some (.leaf (.str s), []) := by
    rw [run_laws_markText]
    by_cases h : k ≤ 0
    · simp only [h, decide_true, branch_true]; exact ⟨_, rfl⟩
    · obtain ⟨n, hn⟩ : ∃ n : Nat, k < 10 ^ n ∧ n ≤ k.toNat := ⟨k.toNat, by
        have : (k.toNat : Int) < 10 ^ k.toNat := by exact_mod_cast (Nat.lt_pow_self (by omega) : k.toNat < 10 ^ k.toNat)
        omega, Nat.le_refl _⟩
      simp only [h, decide_false, branch_false]
      -- the first round brings it below the bound of the kind
      rw [laws_markText_0_eq]
      have hz : ∀ x : UInt8, (ByteArray.mk #[x]).size = 1 := fun _ => rfl
      have h0 : k > 0 := by omega
      have he : (ByteArray.mk #[]).size = 0 := rfl
      simp only [h0, decide_true, branch_true, List.map_cons, List.map_nil, hz, he, show 1 + 0 ≤ 140737488355328 by omega, guarded_true]
      refine markText_from 19 _ _ ?_ (by rw [ByteArray.size_append, hz, he]; omega)
      have e : ∀ x : Int, IntKind.i64.wrap x < 10 ^ 19 := fun x => by
        have e : IntKind.i64.wrap x = if x % 18446744073709551616 ≥ 9223372036854775808 then x % 18446744073709551616 - 18446744073709551616 else x % 18446744073709551616 := by
          simp [IntKind.wrap, IntKind.signed, IntKind.bits]
        rw [e]
        split <;> omega
      exact e _
  obtain ⟨s, hs⟩ := key
  exact ⟨s, den_of hs⟩
/-- The text of a mark. -/
noncomputable def mtx (k : Int) : ByteArray := Classical.choose (markText_ex k)
theorem d_markText (k : Int) : Dn F.laws_markText [vint k] [] = some (.leaf (.str (mtx k)), []) := Classical.choose_spec (markText_ex k)
end Go.Vs
end
section
open Go Go.Vs Go.Proofs
set_option linter.unusedVariables false
set_option linter.unusedSimpArgs false
namespace Go.Vs
/-! ### Texts and their ends -/
/-- Does a text end so? -/
def ends (s : ByteArray) (c : UInt8) : Bool := decide (0 < s.size) && (s.data.toList.getD (s.size - 1) 0 == c)
def cut (s : ByteArray) : ByteArray := s.extract 0 (s.size - 1)
theorem cut_size (s : ByteArray) : (cut s).size = s.size - 1 := by unfold cut; rw [ByteArray.size_extract]; omega
theorem wrap_sub {n d : Nat} (h : n ≤ maxLen) (hd : d ≤ n) : IntKind.i64.wrap ((n : Int) - (d : Int)) = ((n - d : Nat) : Int) := by
  have hm : maxLen = 9223372036854775807 := rfl
  rw [wrap64 (by omega) (by omega)]; omega
theorem tl (s : ByteArray) : s.toList = s.data.toList := by first | exact ByteArray.toList_eq s | exact Go.ByteArray.toList_eq s
theorem size_data (s : ByteArray) : s.data.toList.length = s.size := by rw [Array.length_toList]; rfl
theorem suffix_one (s : ByteArray) (c : UInt8) (h : 0 < s.size) : ((s.extract (s.size - 1) s.size).toList == (ByteArray.mk #[c]).toList) = ends s c := by
  have hl := size_data s
  have e1 : (s.extract (s.size - 1) s.size).toList = [s.data.toList.getD (s.size - 1) 0] := by
    rw [tl, ByteArray.data_extract, Array.toList_extract, List.extract_eq_take_drop]
    have : s.data.toList.drop (s.size - 1) = [s.data.toList.getD (s.size - 1) 0] := by
      rw [List.drop_eq_getElem_cons (by omega), List.drop_of_length_le (by omega)]
      rw [List.getD_eq_getElem?_getD, List.getElem?_eq_getElem (show s.size - 1 < s.data.toList.length by omega)]; rfl
    rw [this]
    have : s.size - (s.size - 1) = 1 := by omega
    rw [this]; rfl
  have e2 : (ByteArray.mk #[c]).toList = [c] := by rw [tl]
  rw [e1, e2]
  unfold ends
  simp only [h, decide_true, Bool.true_and]
  cases hx : (s.data.toList.getD (s.size - 1) 0 == c) <;> simp_all
theorem d_HasSuffix {s : ByteArray} {c : UInt8} (hs : s.size ≤ maxLen) : Dn F.internal_stringslite_HasSuffix [.leaf (.str s), .leaf (.str ⟨#[c]⟩)] [] = some (vbool (ends s c), []) := by
  apply den_of
  rw [run_internal_stringslite_HasSuffix]
  have h1 : (ByteArray.mk #[c]).size = 1 := rfl
  rw [h1]
  by_cases h : 0 < s.size
  · have hw := wrap_sub hs (show 1 ≤ s.size by omega)
    simp only [hw, show ((s.size : Nat) : Int) ≥ ((1 : Nat) : Int) by omega, decide_true, beq_self_eq_true, branch_true, Int.natCast_nonneg, Bool.true_and, Option.getD_some, Option.getD_none, Int.toNat_natCast, Nat.sub_le, Nat.le_refl, guarded_true]
    rw [suffix_one s c h]
  · have h0 : ¬ ((s.size : Nat) : Int) ≥ ((1 : Nat) : Int) := by omega
    simp only [h0, decide_false, show ((false : Bool) == true) = false from rfl, branch_false]
    have : ends s c = false := by unfold ends; simp [h]
    rw [this]
theorem d_CutSuffix {s : ByteArray} {c : UInt8} (hs : s.size ≤ maxLen) : Dn F.strings_CutSuffix [.leaf (.str s), .leaf (.str ⟨#[c]⟩)] [] = some (.tup [.leaf (.str (if ends s c then cut s else s)), vbool (ends s c)], []) := by
  have h1 : (ByteArray.mk #[c]).size = 1 := rfl
  have key : Dn F.internal_stringslite_CutSuffix [.leaf (.str s), .leaf (.str ⟨#[c]⟩)] [] = some (.tup [.leaf (.str (if ends s c then cut s else s)), vbool (ends s c)], []) := by
    apply den_of
    rw [run_internal_stringslite_CutSuffix, d_HasSuffix hs, h1]
    simp only [Option.bind_some, svLeafK_leaf, boolK_bool]
    cases he : ends s c with
    | false => simp
    | true =>
      have h : 0 < s.size := by unfold ends at he; simp at he; omega
      have hw := wrap_sub hs (show 1 ≤ s.size by omega)
      simp only [hw, Bool.not_true, branch_false, Int.natCast_nonneg, decide_true, Bool.true_and, Option.getD_some, Option.getD_none, Int.toNat_natCast, Nat.sub_le, guarded_true, if_true]
      rfl
  apply den_of
  rw [run_strings_CutSuffix, key]
  simp
theorem d_unwrapped {n s : ByteArray} {c : UInt8} (hs : s.size ≤ maxLen) : Dn F.impl_unwrapped [.agg [.str n, .str s], .leaf (.str ⟨#[c]⟩)] [] = some (.tup [.agg [.str n, .str (if ends s c then cut s else s)], vbool (ends s c)], []) := by
  apply den_of
  rw [run_impl_unwrapped, d_CutSuffix hs]
  simp
theorem d_impl_Needed {n s : ByteArray} (hs : s.size ≤ maxLen) : Dn F.impl_Needed [.agg [.str n, .str s]] [] = some (vbool (ends s 33), []) := by
  have key : Dn F.strings_HasSuffix [.leaf (.str s), .leaf (.str ⟨#[33]⟩)] [] = some (vbool (ends s 33), []) := by
    apply den_of
    rw [run_strings_HasSuffix, d_HasSuffix hs]
    simp
  apply den_of
  rw [run_impl_Needed, key]
  simp
theorem byte_is (x : UInt8) (c : Nat) (hc : c < 256) : (((x.toNat : Nat) : Int) == (c : Int)) = (x == UInt8.ofNat c) := by
  rw [Bool.eq_iff_iff, beq_iff_eq, beq_iff_eq, ← UInt8.toNat_inj]
  simp only [UInt8.toNat_ofNat']
  omega
theorem d_spec_Needed {n s : ByteArray} (hs : s.size ≤ maxLen) : Dn F.spec_Needed [.agg [.str n, .str s]] [] = some (vbool (ends s 33), []) := by
  apply den_of
  rw [run_spec_Needed]
  by_cases h : 0 < s.size
  · have hw : IntKind.i64.wrap ((s.size : Int) - 1) = ((s.size - 1 : Nat) : Int) := wrap_sub hs (show 1 ≤ s.size by omega)
    have hlt : ((s.size - 1 : Nat) : Int) < (s.size : Int) := by omega
    simp only [hw, show ((s.size : Nat) : Int) > 0 by omega, decide_true, beq_self_eq_true, branch_true, Int.natCast_nonneg, Bool.true_and, hlt, Int.toNat_natCast, guarded_true]
    have := byte_is (s.data.toList.getD (s.size - 1) 0) 33 (by omega)
    rw [show ((33 : Nat) : Int) = 33 from rfl] at this
    rw [this]
    unfold ends
    simp only [h, decide_true, Bool.true_and]
    rfl
  · have h0 : ¬ ((s.size : Nat) : Int) > 0 := by omega
    simp only [h0, decide_false, show ((false : Bool) == true) = false from rfl, branch_false]
    have : ends s 33 = false := by unfold ends; simp [h]
    rw [this]
/-! ### May the one stand where the other is wanted? -/
theorem compat_ex (n1 n2 : ByteArray) (k : Nat) : ∀ (w1 w2 : ByteArray), w1.size + w2.size = k → w1.size ≤ maxLen → w2.size ≤ maxLen →
    ∃ b, spec_Compatible_A Dn (spec_Compatible_0 n1 w1 n2 w2) = some (vbool b, []) ∧ Dn F.impl_Compatible [.agg [.str n1, .str w1], .agg [.str n2, .str w2]] [] = some (vbool b, []) := by
  induction k using Nat.strongRecOn with
  | ind k ih =>
    intro w1 w2 hk h1 h2
    have pos : ∀ {w : ByteArray} {c : UInt8}, ends w c = true → 0 < w.size := fun {w c} he => by unfold ends at he; simp at he; omega
    have cutE : ∀ {w : ByteArray}, 0 < w.size → w.size ≤ maxLen → w.extract 0 (IntKind.i64.wrap ((w.size : Int) - 1)).toNat = cut w := fun {w} hp hw => by
      rw [show IntKind.i64.wrap ((w.size : Int) - 1) = ((w.size - 1 : Nat) : Int) from wrap_sub hw (show 1 ≤ w.size by omega), Int.toNat_natCast]; rfl
    have grd : ∀ {w : ByteArray}, 0 < w.size → w.size ≤ maxLen → (decide (0 ≤ IntKind.i64.wrap ((w.size : Int) - 1)) && decide ((IntKind.i64.wrap ((w.size : Int) - 1)).toNat ≤ w.size)) = true := fun {w} hp hw => by
      rw [show IntKind.i64.wrap ((w.size : Int) - 1) = ((w.size - 1 : Nat) : Int) from wrap_sub hw (show 1 ≤ w.size by omega), Int.toNat_natCast]; simp
    have grd2 : ∀ {w : ByteArray}, 0 < w.size → w.size ≤ maxLen → (decide (0 ≤ IntKind.i64.wrap ((w.size : Int) - 1)) && decide (IntKind.i64.wrap ((w.size : Int) - 1) < (w.size : Int))) = true := fun {w} hp hw => by
      rw [show IntKind.i64.wrap ((w.size : Int) - 1) = ((w.size - 1 : Nat) : Int) from wrap_sub hw (show 1 ≤ w.size by omega)]; simp; omega
    have last : ∀ {w : ByteArray}, 0 < w.size → w.size ≤ maxLen → (((w.data.toList.getD (IntKind.i64.wrap ((w.size : Int) - 1)).toNat 0).toNat : Int) == 93) = ends w 93 := fun {w} hp hw => by
      rw [show IntKind.i64.wrap ((w.size : Int) - 1) = ((w.size - 1 : Nat) : Int) from wrap_sub hw (show 1 ≤ w.size by omega), Int.toNat_natCast]
      have := byte_is (w.data.toList.getD (w.size - 1) 0) 93 (by omega)
      rw [show ((93 : Nat) : Int) = 93 from rfl] at this
      rw [this]; unfold ends; simp only [hp, decide_true, Bool.true_and]; rfl
    have emp : ∀ w : ByteArray, (w.toList == (ByteArray.mk #[]).toList) = ((w.size : Int) == 0) := fun w => by
      have hl := size_data w
      rw [tl, tl]
      show (w.data.toList == []) = _
      cases hx : w.data.toList with
      | nil => rw [hx] at hl; simp at hl; rw [← hl]; rfl
      | cons a r => rw [hx] at hl; simp at hl; rw [← hl]; simp; omega
    have sp := spec_Compatible_0_eq Dn n1 w1 n2 w2
    rw [d_spec_Needed h2, d_spec_Needed h1] at sp
    have im : run2V Go.Proofs.Tryz.prog Dn Hs limR F.impl_Compatible [.agg [.str n1, .str w1], .agg [.str n2, .str w2]] [] = _ := run_impl_Compatible Dn n1 w1 n2 w2
    simp only [d_unwrapped h1, d_unwrapped h2, Option.bind_some, svTupK_tup, headK_cons, svAggK_agg, svLeafK_leaf, boolK_bool, strK_str, atK_zero, atK_succ, lastK_nil, List.length_cons, List.length_nil, Nat.reduceAdd, Nat.reduceBEq, guarded_true] at sp im
    simp only [Option.getD_some, Option.getD_none] at sp
    cases e2 : ends w2 33 with
    | true =>
      cases e1 : ends w1 33 with
      | false =>
        simp only [e1, e2, branch_true, Bool.not_false] at sp im
        exact ⟨false, sp, den_of im⟩
      | true =>
        have p1 := pos e1
        have p2 := pos e2
        obtain ⟨b, k1, k2⟩ := ih _ (by rw [cut_size, cut_size]; omega) (cut w1) (cut w2) rfl (by rw [cut_size]; omega) (by rw [cut_size]; omega)
        simp only [e1, e2, branch_true, Bool.not_true, branch_false, grd p1 h1, grd p2 h2, guarded_true, cutE p1 h1, cutE p2 h2, beq_self_eq_true, if_true, k2, Option.bind_some, svLeafK_leaf, boolK_bool] at sp im
        exact ⟨b, sp.trans k1, den_of im⟩
    | false =>
      cases e1 : ends w1 33 with
      | true =>
        have p1 := pos e1
        obtain ⟨b, k1, k2⟩ := ih _ (by rw [cut_size]; omega) (cut w1) w2 rfl (by rw [cut_size]; omega) h2
        simp only [e1, e2, branch_true, branch_false, grd p1 h1, guarded_true, cutE p1 h1, if_true, k2, Option.bind_some, svLeafK_leaf, boolK_bool] at sp im
        exact ⟨b, sp.trans k1, den_of im⟩
      | false =>
        simp only [e1, e2, branch_false] at sp im
        have s1 := spec_Compatible_1_eq Dn (w1.size : Int) (w2.size : Int)
        have i1 := impl_Compatible_0_eq Dn
        by_cases hb : ends w1 93 = true ∧ ends w2 93 = true
        · obtain ⟨l1, l2⟩ := hb
          have p1 := pos l1
          have p2 := pos l2
          obtain ⟨b, k1, k2⟩ := ih _ (by rw [cut_size, cut_size]; omega) (cut w1) (cut w2) rfl (by rw [cut_size]; omega) (by rw [cut_size]; omega)
          have q1 : ((w1.size : Nat) : Int) > 0 := by omega
          have q2 : ((w2.size : Nat) : Int) > 0 := by omega
          simp only [q1, q2, decide_true, beq_self_eq_true, branch_true, grd2 p1 h1, grd2 p2 h2, guarded_true, last p1 h1, last p2 h2, l1, l2, s1, Option.getD_some, Option.getD_none, grd p1 h1, grd p2 h2, cutE p1 h1, cutE p2 h2] at sp
          simp only [l1, l2, beq_self_eq_true, branch_true, i1, if_true, k2, Option.bind_some, svLeafK_leaf, boolK_bool] at im
          exact ⟨b, sp.trans k1, den_of im⟩
        · have fin : ∃ b, branch ((((w1.size : Nat) : Int) == 0) == true) (branch ((((w2.size : Nat) : Int) == 0) == true) (some (SV.leaf (Leaf.bool (n1.toList == n2.toList)), [])) (some (SV.leaf (Leaf.bool false), []))) (some (SV.leaf (Leaf.bool false), [])) = (some (vbool b, []) : Res) := by
            rw [branch_ite, branch_ite]
            split
            · split
              · exact ⟨_, rfl⟩
              · exact ⟨_, rfl⟩
            · exact ⟨_, rfl⟩
          obtain ⟨b, hb'⟩ := fin
          refine ⟨b, ?_, den_of ?_⟩
          · rw [sp]
            by_cases p1 : 0 < w1.size
            · have q1 : ((w1.size : Nat) : Int) > 0 := by omega
              by_cases p2 : 0 < w2.size
              · have q2 : ((w2.size : Nat) : Int) > 0 := by omega
                simp only [q1, q2, decide_true, beq_self_eq_true, branch_true, grd2 p1 h1, grd2 p2 h2, guarded_true, last p1 h1, last p2 h2]
                cases l1 : ends w1 93 with
                | true =>
                  have l2 : ends w2 93 = false := by simpa [l1] using hb
                  simp only [l2, s1, beq_self_eq_true, branch_true, branch_false]
                  exact hb'
                | false =>
                  simp only [s1, show ((false : Bool) == true) = false from rfl, branch_false]
                  exact hb'
              · have q2 : ¬ ((w2.size : Nat) : Int) > 0 := by omega
                simp only [q1, q2, decide_true, decide_false, beq_self_eq_true, branch_true, show ((false : Bool) == true) = false from rfl, branch_false, s1]
                exact hb'
            · have q1 : ¬ ((w1.size : Nat) : Int) > 0 := by omega
              simp only [q1, decide_false, show ((false : Bool) == true) = false from rfl, branch_false, s1]
              exact hb'
          · rw [im]
            cases l1 : ends w1 93 with
            | true =>
              have l2 : ends w2 93 = false := by simpa [l1] using hb
              simp only [l2, beq_self_eq_true, branch_true, i1, branch_false, emp]
              exact hb'
            | false =>
              simp only [i1, show ((false : Bool) == true) = false from rfl, branch_false, emp]
              exact hb'
end Go.Vs
end
section
open Go Go.Vs Go.Proofs
set_option linter.unusedVariables false
set_option linter.unusedSimpArgs false
namespace Go.Vs
open Classical in
noncomputable def compat (n1 w1 n2 w2 : ByteArray) : Bool := if h : w1.size ≤ maxLen ∧ w2.size ≤ maxLen then Classical.choose (compat_ex n1 n2 _ w1 w2 rfl h.1 h.2) else false
theorem d_spec_Compatible {n1 w1 n2 w2 : ByteArray} (h1 : w1.size ≤ maxLen) (h2 : w2.size ≤ maxLen) : Dn F.spec_Compatible [.agg [.str n1, .str w1], .agg [.str n2, .str w2]] [] = some (vbool (compat n1 w1 n2 w2), []) := by
  have h : w1.size ≤ maxLen ∧ w2.size ≤ maxLen := ⟨h1, h2⟩
  apply den_of
  rw [run_spec_Compatible]
  unfold compat
  rw [dif_pos h]
  exact (Classical.choose_spec (compat_ex n1 n2 _ w1 w2 rfl h.1 h.2)).1
theorem d_impl_Compatible {n1 w1 n2 w2 : ByteArray} (h1 : w1.size ≤ maxLen) (h2 : w2.size ≤ maxLen) : Dn F.impl_Compatible [.agg [.str n1, .str w1], .agg [.str n2, .str w2]] [] = some (vbool (compat n1 w1 n2 w2), []) := by
  have h : w1.size ≤ maxLen ∧ w2.size ≤ maxLen := ⟨h1, h2⟩
  unfold compat
  rw [dif_pos h]
  exact (Classical.choose_spec (compat_ex n1 n2 _ w1 w2 rfl h.1 h.2)).2
/-! ### Where a name stands -/
def idxOf (s : ByteArray) : Int → List (List (Leaf false)) → Int
  | _, [] => -1
  | i, e :: es => if ((strAt e 0).toList == s.toList) = true then i else idxOf s (i + 1) es
theorem spec_InAt_from {es : List (List (Leaf false))} {s : ByteArray} (hl : es.length ≤ maxLen) (hq : ∀ e ∈ es, IsInDef e) : ∀ i : Nat, i ≤ es.length →
    spec_InAt_A Dn (spec_InAt_0 es s i) = some (vint (idxOf s i (es.drop i)), []) := by
  refine upto_ind ?_ ?_
  · rw [spec_InAt_0_eq]; simp [idxOf]
  · intro i hi ih
    obtain ⟨s0, s1, s2, s3, b4, i5, s6, e7, e8, e9, he, h0, h1, h2, h3, h6, h7, q7, h8, q8, h9, q9⟩ := (hq _ (List.getElem_mem hi)).ex
    rw [spec_InAt_0_eq, drop_at hi]
    simp only [Int.ofNat_lt, hi, decide_true, branch_true, Int.natCast_nonneg, Bool.and_true, Int.toNat_natCast, guarded_true, wrap_upL (Nat.lt_of_lt_of_le hi hl), sized_all (fun e he => (hq e he).len), getD_lt hi]
    rw [he]
    simp only [atK_zero, strK_str, branch_ite, idxOf, strAt, List.getElem?_cons_zero, ih]
    by_cases hx : (s0.toList == s.toList) = true <;> simp [hx]
theorem d_spec_InAt {es : List (List (Leaf false))} {s : ByteArray} (hl : es.length ≤ maxLen) (hq : ∀ e ∈ es, IsInDef e) : Dn F.spec_InAt [vsl es, .leaf (.str s)] [] = some (vint (idxOf s 0 es), []) := by
  apply den_of
  rw [run_spec_InAt]
  exact spec_InAt_from hl hq 0 (Nat.zero_le _)
theorem d_impl_InAt_1 {e : List (Leaf false)} {s : ByteArray} (h : IsInDef e) : Dn F.impl_InAt_1 [.agg e, .ptr 0 0] [[.leaf (.str s)]] = some (vbool ((strAt e 0).toList == s.toList), [[.leaf (.str s)]]) := by
  cases h
  apply den_of
  rw [run_impl_InAt_1]
  rfl
theorem indexIn_from {es : List (List (Leaf false))} {s : ByteArray} (hl : es.length ≤ maxLen) (hq : ∀ e ∈ es, IsInDef e) : ∀ i : Nat, i ≤ es.length →
    slices_IndexFunc_S_impl_InDef_impl_InDef_c1p1_A Dn (slices_IndexFunc_S_impl_InDef_impl_InDef_c1p1_0 es F.impl_InAt_1 es.length i s) = some (vint (idxOf s i (es.drop i)), [[.leaf (.str s)]]) := by
  refine upto_ind ?_ ?_
  · rw [slices_IndexFunc_S_impl_InDef_impl_InDef_c1p1_0_eq]; simp [idxOf]
  · intro i hi ih
    have hci := d_impl_InAt_1 (s := s) (hq _ (List.getElem_mem hi))
    obtain ⟨s0, s1, s2, s3, b4, i5, s6, e7, e8, e9, he, h0, h1, h2, h3, h6, h7, q7, h8, q8, h9, q9⟩ := (hq _ (List.getElem_mem hi)).ex
    rw [slices_IndexFunc_S_impl_InDef_impl_InDef_c1p1_0_eq, drop_at hi]
    simp only [Int.ofNat_lt, hi, decide_true, branch_true, Int.natCast_nonneg, Bool.and_true, Int.toNat_natCast, guarded_true, wrap_upL (Nat.lt_of_lt_of_le hi hl), sized_all (fun e he => (hq e he).len), getD_lt hi]
    rw [he] at hci ⊢
    simp only [bindE_eq, atK_zero, atK_succ, intK_int, strK_str, boolK_bool, slK_sl, hci, Option.bind_some, headB_cons, headK_cons, svLeafK_leaf, lastK_nil, lastB_nil, branch_ite, idxOf, strAt, List.getElem?_cons_zero, ih]
    by_cases hx : (s0.toList == s.toList) = true <;> simp [hx]
theorem d_impl_InAt {es : List (List (Leaf false))} {s : ByteArray} (hl : es.length ≤ maxLen) (hq : ∀ e ∈ es, IsInDef e) : Dn F.impl_InAt [vsl es, .leaf (.str s)] [] = some (vint (idxOf s 0 es), []) := by
  have key : Dn F.slices_IndexFunc_S_impl_InDef_impl_InDef [vsl es, .fn F.impl_InAt_1 [.ptr 0 0]] [[.leaf (.str s)]] = some (vint (idxOf s 0 es), [[.leaf (.str s)]]) := by
    apply den_of
    rw [run_slices_IndexFunc_S_impl_InDef_impl_InDef_c1p1]
    exact indexIn_from hl hq 0 (Nat.zero_le _)
  apply den_of
  rw [run_impl_InAt, key]
  simp
theorem idxOf_lt (s : ByteArray) : ∀ (es : List (List (Leaf false))) (i : Int), 0 ≤ i → idxOf s i es = -1 ∨ (i ≤ idxOf s i es ∧ idxOf s i es < i + es.length)
  | [], i, h => .inl rfl
  | e :: es, i, h => by
    unfold idxOf
    split
    · right; simp; omega
    · rcases idxOf_lt s es (i + 1) (by omega) with h1 | h1
      · exact .inl h1
      · right; simp only [List.length_cons]; push_cast; omega
/-! ### Are two values alike? -/
mutual
def eqF : Leaf false → Leaf false → Bool
  | .int _ a, .int _ b => a == b
  | .str a, .str b => a.toList == b.toList
  | .bool a, .bool b => a == b
  | .sl _ a, .sl _ b => eqE a b
  | _, _ => false
def eqL : List (Leaf false) → List (Leaf false) → Bool
  | [], [] => true
  | a :: r, b :: s => eqF a b && eqL r s
  | _, _ => false
def eqE : List (List (Leaf false)) → List (List (Leaf false)) → Bool
  | [], [] => true
  | a :: r, b :: s => eqL a b && eqE r s
  | _, _ => false
end
theorem eqE_len : ∀ (a b : List (List (Leaf false))), eqE a b = true → a.length = b.length
  | [], [], _ => rfl
  | _ :: r, _ :: s, h => by
    rw [eqE, Bool.and_eq_true] at h
    rw [List.length_cons, List.length_cons, eqE_len r s h.2]
  | [], _ :: _, h => by simp [eqE] at h
  | _ :: _, [], h => by simp [eqE] at h
theorem names_from {β : Type} {A : Int → Option β} {no yes : Option β} {a b : List (List (Leaf false))} (hla : a.length ≤ maxLen) (hlen : a.length = b.length) (qa : ∀ e ∈ a, IsStr e) (qb : ∀ e ∈ b, IsStr e)
    (hend : A a.length = yes) (hstep : ∀ (i : Nat) (hi : i < a.length), A i = branch (!((strAt a[i] 0).toList == (strAt (b[i]'(by omega)) 0).toList)) no (A ((i + 1 : Nat) : Int))) :
    ∀ i : Nat, i ≤ a.length → A i = if eqE (a.drop i) (b.drop i) = true then yes else no := by
  refine upto_ind ?_ ?_
  · rw [hend, List.drop_length, hlen, List.drop_length]; simp [eqE]
  · intro i hi ih
    rw [hstep i hi, ih, drop_at hi, drop_at (show i < b.length by omega)]
    obtain ⟨s, hs, _⟩ := qa _ (List.getElem_mem hi)
    obtain ⟨u, hu, _⟩ := qb _ (List.getElem_mem (show i < b.length by omega))
    simp only [hs, hu, strAt, List.getElem?_cons_zero, eqE, eqL, eqF, branch_ite, Bool.and_true]
    cases hx : (s.toList == u.toList) <;> simp
theorem d_slices_Equal {a b : List (List (Leaf false))} (ha : a.length ≤ maxLen) (qa : ∀ e ∈ a, IsStr e) (qb : ∀ e ∈ b, IsStr e) : Dn F.slices_Equal_S_string_string [vsl a, vsl b] [] = some (vbool (eqE a b), []) := by
  apply den_of
  rw [run_slices_Equal_S_string_string]
  by_cases hlen : a.length = b.length
  · have hne : (((a.length : Nat) : Int) != ((b.length : Nat) : Int)) = false := by simp [hlen]
    rw [hne, branch_false]
    have := names_from (A := fun i => slices_Equal_S_string_string_A Dn (slices_Equal_S_string_string_0 a b a.length i)) (no := some (vbool false, [])) (yes := some (vbool true, [])) ha hlen qa qb (by
      rw [slices_Equal_S_string_string_0_eq]; simp) (fun i hi => by
      obtain ⟨s, hs, _⟩ := qa _ (List.getElem_mem hi)
      have hib : i < b.length := by omega
      obtain ⟨u, hu, _⟩ := qb _ (List.getElem_mem hib)
      rw [slices_Equal_S_string_string_0_eq]
      simp only [Int.ofNat_lt, hi, hib, decide_true, branch_true, Int.natCast_nonneg, Bool.and_true, Int.toNat_natCast, guarded_true, wrap_upL (Nat.lt_of_lt_of_le hi ha), sized_all (fun e he => (qa e he).len), sized_all (fun e he => (qb e he).len), getD_lt hi, getD_lt hib, hs, hu, atK_zero, strK_str, strAt, List.getElem?_cons_zero]) 0 (Nat.zero_le _)
    simp only [List.drop_zero] at this
    rw [show ((0 : Int)) = ((0 : Nat) : Int) from rfl, this]
    cases eqE a b <;> rfl
  · have hne : (((a.length : Nat) : Int) != ((b.length : Nat) : Int)) = true := by simp; omega
    have : eqE a b = false := by rw [Bool.eq_false_iff]; exact fun h => hlen (eqE_len a b h)
    rw [hne, this]; rfl
theorem items_from {β : Type} {A : Int → Option β} {no yes : Option β} {a b : List (List (Leaf false))} (hlen : a.length = b.length)
    (hend : A a.length = yes) (hstep : ∀ (i : Nat) (hi : i < a.length), A i = branch (!(eqL a[i] (b[i]'(by omega)))) no (A ((i + 1 : Nat) : Int))) :
    ∀ i : Nat, i ≤ a.length → A i = if eqE (a.drop i) (b.drop i) = true then yes else no := by
  refine upto_ind ?_ ?_
  · rw [hend, List.drop_length, hlen, List.drop_length]; simp [eqE]
  · intro i hi ih
    rw [hstep i hi, ih, drop_at hi, drop_at (show i < b.length by omega)]
    simp only [eqE, branch_ite]
    by_cases hx : eqL a[i] (b[i]'(by omega)) = true <;> simp [hx]
theorem d_SameValue {x : List (Leaf false)} (hx : IsValue x) : ∀ {y : List (Leaf false)}, IsValue y → Dn F.impl_SameValue [.agg x, .agg y] [] = some (vbool (eqL x y), []) ∧ Dn F.spec_SameValue [.agg x, .agg y] [] = some (vbool (eqL x y), []) := by
  induction hx with
  | mk i0 s1 e2 e3 h1 h2 q2 h3 q3 ih =>
    intro y hy
    cases hy with
    | mk j0 t1 f2 f3 g1 g2 r2 g3 r3 =>
      have step : ∀ (i : Nat) (hi : i < e2.length) (hib : i < f2.length), Dn F.impl_SameValue [.agg e2[i], .agg f2[i]] [] = some (vbool (eqL e2[i] f2[i]), []) ∧ Dn F.spec_SameValue [.agg e2[i], .agg f2[i]] [] = some (vbool (eqL e2[i] f2[i]), []) :=
        fun i hi hib => ih _ (List.getElem_mem hi) (r2 _ (List.getElem_mem hib))
      have val : eqL [.int .i64 i0, .str s1, .sl fP e2, .sl fP e3] [.int .i64 j0, .str t1, .sl fP f2, .sl fP f3] = ((i0 == j0) && ((s1.toList == t1.toList) && (eqE e2 f2 && eqE e3 f3))) := by
        simp only [eqL, eqF, Bool.and_true]
      rw [val]
      constructor
      · have hE : Dn F.slices_EqualFunc_S_impl_Value_S_impl_Value_impl_Value_impl_Value [vsl e2, vsl f2, .fn F.impl_SameValue []] [] = some (vbool (eqE e2 f2), []) := by
          apply den_of
          rw [run_slices_EqualFunc_S_impl_Value_S_impl_Value_impl_Value_impl_Value_c0]
          by_cases hlen : e2.length = f2.length
          · have hne : (((e2.length : Nat) : Int) != ((f2.length : Nat) : Int)) = false := by simp [hlen]
            rw [hne, branch_false]
            have := items_from (A := fun i => slices_EqualFunc_S_impl_Value_S_impl_Value_impl_Value_impl_Value_c0_A Dn (slices_EqualFunc_S_impl_Value_S_impl_Value_impl_Value_impl_Value_c0_0 f2 F.impl_SameValue e2 e2.length i)) (no := some (vbool false, [])) (yes := some (vbool true, [])) hlen (by
              rw [slices_EqualFunc_S_impl_Value_S_impl_Value_impl_Value_impl_Value_c0_0_eq]; simp) (fun i hi => by
              have hib : i < f2.length := by omega
              have hc := (step i hi hib).1
              obtain ⟨a0, a1, a2, a3, ha, _⟩ := (q2 _ (List.getElem_mem hi)).ex
              obtain ⟨b0, b1, b2, b3, hb, _⟩ := (r2 _ (List.getElem_mem hib)).ex
              rw [slices_EqualFunc_S_impl_Value_S_impl_Value_impl_Value_impl_Value_c0_0_eq]
              rw [ha, hb] at hc
              simp only [Int.ofNat_lt, hi, hib, decide_true, branch_true, Int.natCast_nonneg, Bool.and_true, Int.toNat_natCast, guarded_true, wrap_upL (Nat.lt_of_lt_of_le hi h2), sized_all (fun e he => (q2 e he).len), sized_all (fun e he => (r2 e he).len), getD_lt hi, getD_lt hib, ha, hb, bindE_eq, atK_zero, atK_succ, intK_int, strK_str, slK_sl, hc, Option.bind_some, lastB_nil, svLeafK_leaf, boolK_bool]) 0 (Nat.zero_le _)
            simp only [List.drop_zero] at this
            rw [show ((0 : Int)) = ((0 : Nat) : Int) from rfl, this]
            cases eqE e2 f2 <;> rfl
          · have hne : (((e2.length : Nat) : Int) != ((f2.length : Nat) : Int)) = true := by simp; omega
            have : eqE e2 f2 = false := by rw [Bool.eq_false_iff]; exact fun h => hlen (eqE_len _ _ h)
            rw [hne, this]; rfl
        apply den_of
        rw [run_impl_SameValue, d_slices_Equal h3 q3 r3]
        simp only [Option.bind_some, svLeafK_leaf, boolK_bool, hE, lastB_nil]
        cases (i0 == j0) <;> cases (s1.toList == t1.toList) <;> cases eqE e3 f3 <;> cases eqE e2 f2 <;> rfl
      · have s2 : e2.length = f2.length → spec_SameValue_A Dn (spec_SameValue_2 0 i0 s1 e2 e3 j0 t1 f2 f3) = some (vbool (eqE e2 f2), []) := fun hlen => by
          have := items_from (A := fun i => spec_SameValue_A Dn (spec_SameValue_2 i i0 s1 e2 e3 j0 t1 f2 f3)) (no := some (vbool false, [])) (yes := some (vbool true, [])) hlen (by
            rw [spec_SameValue_2_eq]; simp) (fun i hi => by
            have hib : i < f2.length := by omega
            have hc := (step i hi hib).2
            obtain ⟨a0, a1, a2, a3, ha, _⟩ := (q2 _ (List.getElem_mem hi)).ex
            obtain ⟨b0, b1, b2, b3, hb, _⟩ := (r2 _ (List.getElem_mem hib)).ex
            rw [spec_SameValue_2_eq]
            rw [ha, hb] at hc
            simp only [Int.ofNat_lt, hi, hib, decide_true, branch_true, Int.natCast_nonneg, Bool.and_true, Int.toNat_natCast, guarded_true, wrap_upL (Nat.lt_of_lt_of_le hi h2), sized_all (fun e he => (q2 e he).len), sized_all (fun e he => (r2 e he).len), getD_lt hi, getD_lt hib, ha, hb, bindE_eq, atK_zero, atK_succ, intK_int, strK_str, slK_sl, hc, Option.bind_some, lastB_nil, svLeafK_leaf, boolK_bool]) 0 (Nat.zero_le _)
          simp only [List.drop_zero] at this
          rw [show ((0 : Int)) = ((0 : Nat) : Int) from rfl, this]
          cases eqE e2 f2 <;> rfl
        have s1' : e2.length = f2.length → e3.length = f3.length → spec_SameValue_A Dn (spec_SameValue_1 0 i0 s1 e2 e3 j0 t1 f2 f3) = some (vbool (eqE e2 f2 && eqE e3 f3), []) := fun hl2 hl3 => by
          have := names_from (A := fun i => spec_SameValue_A Dn (spec_SameValue_1 i i0 s1 e2 e3 j0 t1 f2 f3)) (no := some (vbool false, [])) (yes := some (vbool (eqE e2 f2), [])) h3 hl3 q3 r3 (by
            rw [spec_SameValue_1_eq, s2 hl2]; simp) (fun i hi => by
            obtain ⟨s, hs, _⟩ := q3 _ (List.getElem_mem hi)
            have hib : i < f3.length := by omega
            obtain ⟨u, hu, _⟩ := r3 _ (List.getElem_mem hib)
            rw [spec_SameValue_1_eq]
            simp only [Int.ofNat_lt, hi, hib, decide_true, branch_true, Int.natCast_nonneg, Bool.and_true, Int.toNat_natCast, guarded_true, wrap_upL (Nat.lt_of_lt_of_le hi h3), sized_all (fun e he => (q3 e he).len), sized_all (fun e he => (r3 e he).len), getD_lt hi, getD_lt hib, hs, hu, atK_zero, strK_str, strAt, List.getElem?_cons_zero]) 0 (Nat.zero_le _)
          simp only [List.drop_zero] at this
          rw [show ((0 : Int)) = ((0 : Nat) : Int) from rfl, this]
          cases eqE e3 f3 <;> simp
        apply den_of
        rw [run_spec_SameValue]
        simp only [spec_SameValue_0_eq, branch_true, branch_ite]
        by_cases hi : i0 = j0
        · subst hi
          cases hs : (s1.toList == t1.toList) with
          | true =>
            by_cases hl2 : e2.length = f2.length
            · by_cases hl3 : e3.length = f3.length
              · have n3 : (((e3.length : Nat) : Int) != ((f3.length : Nat) : Int)) = false := by simp [hl3]
                have n2 : (((e2.length : Nat) : Int) != ((f2.length : Nat) : Int)) = false := by simp [hl2]
                rw [s1' hl2 hl3]
                simp [n2, n3]
              · have : eqE e3 f3 = false := by rw [Bool.eq_false_iff]; exact fun h => hl3 (eqE_len _ _ h)
                have n3 : (((e3.length : Nat) : Int) != ((f3.length : Nat) : Int)) = true := by simp; omega
                simp [n3, this]
            · have : eqE e2 f2 = false := by rw [Bool.eq_false_iff]; exact fun h => hl2 (eqE_len _ _ h)
              have n2 : (((e2.length : Nat) : Int) != ((f2.length : Nat) : Int)) = true := by simp; omega
              simp [n2, this]
          | false => simp
        · have : (i0 != j0) = true := by simp [hi]
          have h2 : (i0 == j0) = false := by simp [hi]
          simp [this, h2]
end Go.Vs
end
section
open Go Go.Vs Go.Proofs
set_option linter.unusedVariables false
set_option linter.unusedSimpArgs false
namespace Go.Vs
/-! ### What is otherwise in what may be handed in -/
def chg (code : Int) (o p : ByteArray) : List (Leaf false) := [.int .i64 code, .str o, .str p]
def boolAt (e : List (Leaf false)) (p : Nat) : Bool := match e[p]? with | some (.bool b) => b | _ => false
noncomputable def d1 (o p n1 w1 n2 w2 : ByteArray) : List (List (Leaf false)) := if (!(n1 == n2 && w1 == w2)) = true then [chg (if compat n1 w1 n2 w2 = true then 19 else 7) o p] else []
def d2 (o p : ByteArray) (b c : Bool) (w2 : ByteArray) (xv yv : List (Leaf false)) : List (List (Leaf false)) :=
  if (b && (!c && ends w2 33)) = true then [chg 9 o p] else if (!(b == c) || !(eqL xv yv)) = true then [chg 21 o p] else []
noncomputable def perA (o : ByteArray) (b : List (List (Leaf false))) (x : List (Leaf false)) : List (List (Leaf false)) :=
  if idxOf (strAt x 0) 0 b < 0 then [chg 6 o (strAt x 0)] else
    d1 o (strAt x 0) (strAt x 2) (strAt x 3) (strAt (b.getD (idxOf (strAt x 0) 0 b).toNat []) 2) (strAt (b.getD (idxOf (strAt x 0) 0 b).toNat []) 3) ++
    d2 o (strAt x 0) (boolAt x 4) (boolAt (b.getD (idxOf (strAt x 0) 0 b).toNat []) 4) (strAt (b.getD (idxOf (strAt x 0) 0 b).toNat []) 3) ((x.drop 5).take 4) (((b.getD (idxOf (strAt x 0) 0 b).toNat []).drop 5).take 4)
def perB (o : ByteArray) (a : List (List (Leaf false))) (y : List (Leaf false)) : List (List (Leaf false)) :=
  if idxOf (strAt y 0) 0 a ≥ 0 then [] else [chg (if (ends (strAt y 3) 33 && !(boolAt y 4)) = true then 8 else 20) o (strAt y 0)]
noncomputable def inCh (o : ByteArray) (a b : List (List (Leaf false))) : List (List (Leaf false)) := a.flatMap (perA o b) ++ b.flatMap (perB o a)
theorem d1_len (o p n1 w1 n2 w2 : ByteArray) : (d1 o p n1 w1 n2 w2).length ≤ 1 := by unfold d1; split <;> simp
theorem d2_len (o p : ByteArray) (b c : Bool) (w2 : ByteArray) (xv yv : List (Leaf false)) : (d2 o p b c w2 xv yv).length ≤ 1 := by unfold d2; split <;> (try split) <;> simp
theorem perA_len (o : ByteArray) (b : List (List (Leaf false))) (x : List (Leaf false)) : (perA o b x).length ≤ 2 := by
  unfold perA
  split
  · simp
  · rw [List.length_append]
    have h1 := d1_len o (strAt x 0) (strAt x 2) (strAt x 3) (strAt (b.getD (idxOf (strAt x 0) 0 b).toNat []) 2) (strAt (b.getD (idxOf (strAt x 0) 0 b).toNat []) 3)
    have h2 := d2_len o (strAt x 0) (boolAt x 4) (boolAt (b.getD (idxOf (strAt x 0) 0 b).toNat []) 4) (strAt (b.getD (idxOf (strAt x 0) 0 b).toNat []) 3) ((x.drop 5).take 4) (((b.getD (idxOf (strAt x 0) 0 b).toNat []).drop 5).take 4)
    omega
theorem perB_len (o : ByteArray) (a : List (List (Leaf false))) (y : List (Leaf false)) : (perB o a y).length ≤ 1 := by unfold perB; split <;> simp
theorem flatMap_len {α β : Type} {f : α → List β} {k : Nat} (h : ∀ x, (f x).length ≤ k) : ∀ l : List α, (l.flatMap f).length ≤ k * l.length
  | [] => by simp
  | x :: l => by
    have h1 := h x
    have h2 := flatMap_len h l
    rw [List.flatMap_cons, List.length_append, List.length_cons, Nat.mul_add]; omega
theorem chg_all {o : ByteArray} {a b : List (List (Leaf false))} : ∀ e ∈ inCh o a b, IsChange e := by
  intro e he
  have hc : ∀ {code : Int} {p : ByteArray}, IsChange (chg code o p) := fun {code p} => .mk _ _ _
  have h1 : ∀ {x : List (Leaf false)}, e ∈ perA o b x → IsChange e := fun {x} hx => by
    unfold perA at hx
    split at hx
    · rw [List.mem_singleton.1 hx]; exact hc
    · rcases List.mem_append.1 hx with hx | hx
      · unfold d1 at hx
        split at hx
        · rw [List.mem_singleton.1 hx]; exact hc
        · simp at hx
      · unfold d2 at hx
        split at hx
        · rw [List.mem_singleton.1 hx]; exact hc
        · split at hx
          · rw [List.mem_singleton.1 hx]; exact hc
          · simp at hx
  have h2 : ∀ {x : List (Leaf false)}, e ∈ perB o a x → IsChange e := fun {x} hx => by
    unfold perB at hx
    split at hx
    · simp at hx
    · rw [List.mem_singleton.1 hx]; exact hc
  rcases List.mem_append.1 he with he | he
  · obtain ⟨x, _, hx⟩ := List.mem_flatMap.1 he; exact h1 hx
  · obtain ⟨x, _, hx⟩ := List.mem_flatMap.1 he; exact h2 hx
theorem room {n : Nat} (h : n ≤ 4194304) : (decide ((n + 1) * 40 ≤ maxBytes) && true) = true := by
  have hb : maxBytes = 140737488355328 := rfl
  rw [Bool.and_true, decide_eq_true_eq]; omega
theorem room2 {n : Nat} (h : n ≤ 4194304) : decide ((n + 1) * 40 ≤ maxBytes) = true := by
  have hb : maxBytes = 140737488355328 := rfl
  rw [decide_eq_true_eq]; omega
section
variable {o : ByteArray} {a b : List (List (Leaf false))}
theorem spec_tail {out : List (List (Leaf false))} {i : Int} {x0 x1 x2 x3 : ByteArray} {x4 : Bool} {x5 : Int} {x6 : ByteArray} {x7 x8 x9 : List (List (Leaf false))} {y0 y1 y2 y3 : ByteArray} {y4 : Bool} {y5 : Int} {y6 : ByteArray} {y7 y8 y9 : List (List (Leaf false))}
    (hx : IsValue [.int .i64 x5, .str x6, .sl fP x7, .sl fP x8]) (hy : IsValue [.int .i64 y5, .str y6, .sl fP y7, .sl fP y8]) (hw : y3.size ≤ maxLen) (hr : out.length ≤ 4194304) :
    spec_InChanges_A Dn (spec_InChanges_3 o a b out i x0 x1 x2 x3 x4 x5 x6 x7 x8 x9 y0 y1 y2 y3 y4 y5 y6 y7 y8 y9) =
      spec_InChanges_A Dn (spec_InChanges_1 o a b (out ++ d2 o x0 x4 y4 y3 [.int .i64 x5, .str x6, .sl fP x7, .sl fP x8] [.int .i64 y5, .str y6, .sl fP y7, .sl fP y8]) i) := by
  have sv := (d_SameValue hx hy).2
  rw [spec_InChanges_3_eq]
  simp -implicitDefEqProofs only [d_spec_Needed hw, Option.bind_some, svLeafK_leaf, boolK_bool, spec_InChanges_5_eq, spec_InChanges_8_eq, sv, room hr, guarded_true]
  unfold d2
  generalize eqL [.int .i64 x5, .str x6, .sl fP x7, .sl fP x8] [.int .i64 y5, .str y6, .sl fP y7, .sl fP y8] = q
  cases x4 <;> cases y4 <;> cases ends y3 33 <;> cases q <;> simp [chg]
theorem spec_A_from (ha : a.length ≤ 1048576) (hb : b.length ≤ 1048576) (qa : ∀ e ∈ a, IsInDef e) (qb : ∀ e ∈ b, IsInDef e) : ∀ i : Nat, i ≤ a.length → ∀ out : List (List (Leaf false)), out.length ≤ 2 * i →
    spec_InChanges_A Dn (spec_InChanges_0 o a b out i) = spec_InChanges_A Dn (spec_InChanges_4 o a b (out ++ (a.drop i).flatMap (perA o b)) 0) := by
  have hml : (1048576 : Nat) ≤ maxLen := by decide
  have hla : a.length ≤ maxLen := Nat.le_trans ha hml
  have hlb : b.length ≤ maxLen := Nat.le_trans hb hml
  refine upto_ind ?_ ?_
  · intro out ho; rw [spec_InChanges_0_eq]; simp
  · intro i hi ih out ho
    have hro : out.length ≤ 4194304 := by omega
    have hxi := qa _ (List.getElem_mem hi)
    obtain ⟨x0, x1, x2, x3, x4, x5, x6, x7, x8, x9, he, h0, h1, h2, h3, h6, h7, q7, h8, q8, h9, q9⟩ := hxi.ex
    have next : ∀ out' : List (List (Leaf false)), out' = out ++ perA o b a[i] → spec_InChanges_A Dn (spec_InChanges_1 o a b out' i) = spec_InChanges_A Dn (spec_InChanges_4 o a b (out ++ (a.drop i).flatMap (perA o b)) 0) := fun out' ho' => by
      subst ho'
      rw [spec_InChanges_1_eq, wrap_upL (Nat.lt_of_lt_of_le hi hla), ih _ (by have := perA_len o b a[i]; rw [List.length_append]; omega), drop_at hi, List.flatMap_cons, List.append_assoc]
    have hin := d_spec_InAt (s := x0) hlb qb
    rw [spec_InChanges_0_eq]
    simp -implicitDefEqProofs only [Int.ofNat_lt, hi, decide_true, branch_true, Int.natCast_nonneg, Bool.and_true, Int.toNat_natCast, guarded_true, sized_all (fun e he => (qa e he).len), getD_lt hi]
    rw [he]
    simp -implicitDefEqProofs only [bindE_eq, atK_zero, atK_succ, intK_int, strK_str, boolK_bool, slK_sl, hin, Option.bind_some, svLeafK_leaf]
    rcases idxOf_lt x0 b 0 (by omega) with hk | ⟨hk0, hk1⟩
    · rw [hk]
      simp -implicitDefEqProofs only [show ((-1 : Int) < 0) by omega, decide_true, branch_true, room hro, room2 hro, guarded_true]
      exact next _ (by rw [he]; simp -implicitDefEqProofs only [perA, strAt, List.getElem?_cons_zero, hk, show ((-1 : Int) < 0) = True from eq_true (by omega), if_true, chg])
    · obtain ⟨j, hj⟩ : ∃ j : Nat, idxOf x0 0 b = (j : Int) := ⟨(idxOf x0 0 b).toNat, by omega⟩
      have hjb : j < b.length := by omega
      obtain ⟨y0, y1, y2, y3, y4, y5, y6, y7, y8, y9, hf, g0, g1, g2, g3, g6, g7, r7, g8, r8, g9, r9⟩ := (qb _ (List.getElem_mem hjb)).ex
      have hjn : ¬ ((j : Int) < 0) := by omega
      rw [hj]
      simp -implicitDefEqProofs only [hjn, decide_false, branch_false, Int.ofNat_lt, hjb, decide_true, Int.natCast_nonneg, Bool.and_true, Int.toNat_natCast, guarded_true, sized_all (fun e he => (qb e he).len), getD_lt hjb]
      rw [hf]
      simp -implicitDefEqProofs only [bindE_eq, atK_zero, atK_succ, intK_int, strK_str, boolK_bool, slK_sl, d_spec_Compatible h3 g3, Option.bind_some, svLeafK_leaf, spec_InChanges_2_eq, room hro, room2 hro, guarded_true]
      have tail := fun (out' : List (List (Leaf false))) (hr : out'.length ≤ 4194304) => spec_tail (o := o) (a := a) (b := b) (i := (i : Int)) (x0 := x0) (x1 := x1) (x2 := x2) (x3 := x3) (x4 := x4) (x9 := x9) (y0 := y0) (y1 := y1) (y2 := y2) (y4 := y4) (y9 := y9) (out := out') (.mk x5 x6 x7 x8 h6 h7 q7 h8 q8) (.mk y5 y6 y7 y8 g6 g7 r7 g8 r8) g3 hr
      have pa : perA o b a[i] = d1 o x0 x2 x3 y2 y3 ++ d2 o x0 x4 y4 y3 [.int .i64 x5, .str x6, .sl fP x7, .sl fP x8] [.int .i64 y5, .str y6, .sl fP y7, .sl fP y8] := by
        rw [he]
        simp -implicitDefEqProofs only [perA, strAt, boolAt, List.getElem?_cons_zero, List.getElem?_cons_succ, hj, hjn, if_false, Int.toNat_natCast, getD_lt hjb, hf, List.drop_succ_cons, List.drop_zero, List.take_succ_cons, List.take_zero]
      rw [branch_ite]
      by_cases hne : (!(x2 == y2 && x3 == y3)) = true
      · have e1 : d1 o x0 x2 x3 y2 y3 = [chg (if compat x2 x3 y2 y3 = true then 19 else 7) o x0] := by unfold d1; rw [if_pos hne]
        rw [if_pos hne, branch_ite]
        have hr2 : ∀ l : List (Leaf false), (out ++ [l]).length ≤ 4194304 := fun l => by rw [List.length_append]; simp; omega
        by_cases hcm : compat x2 x3 y2 y3 = true
        · rw [if_pos hcm, Bool.and_self, guarded_true, tail _ (hr2 _)]
          exact next _ (by rw [pa, e1, if_pos hcm]; simp only [chg, List.append_assoc])
        · rw [if_neg hcm, Bool.and_self, guarded_true, tail _ (hr2 _)]
          exact next _ (by rw [pa, e1, if_neg hcm]; simp only [chg, List.append_assoc])
      · have e1 : d1 o x0 x2 x3 y2 y3 = [] := by unfold d1; rw [if_neg hne]
        rw [if_neg hne, tail _ hro]
        exact next _ (by rw [pa, e1]; rfl)
theorem spec_B_from (ha : a.length ≤ 1048576) (hb : b.length ≤ 1048576) (qa : ∀ e ∈ a, IsInDef e) (qb : ∀ e ∈ b, IsInDef e) : ∀ i : Nat, i ≤ b.length → ∀ out : List (List (Leaf false)), out.length ≤ 2097152 + i →
    spec_InChanges_A Dn (spec_InChanges_4 o a b out i) = some (.own (some T.impl_Change) (out ++ (b.drop i).flatMap (perB o a)), []) := by
  have hml : (1048576 : Nat) ≤ maxLen := by decide
  have hla : a.length ≤ maxLen := Nat.le_trans ha hml
  have hlb : b.length ≤ maxLen := Nat.le_trans hb hml
  refine upto_ind ?_ ?_
  · intro out ho; rw [spec_InChanges_4_eq]; simp
  · intro i hi ih out ho
    have hro : out.length ≤ 4194304 := by omega
    obtain ⟨y0, y1, y2, y3, y4, y5, y6, y7, y8, y9, he, h0, h1, h2, h3, h6, h7, q7, h8, q8, h9, q9⟩ := (qb _ (List.getElem_mem hi)).ex
    have next : ∀ out' : List (List (Leaf false)), out' = out ++ perB o a b[i] → spec_InChanges_A Dn (spec_InChanges_6 o a b out' i) = some (.own (some T.impl_Change) (out ++ (b.drop i).flatMap (perB o a)), []) := fun out' ho' => by
      subst ho'
      rw [spec_InChanges_6_eq, wrap_upL (Nat.lt_of_lt_of_le hi hlb), ih _ (by have := perB_len o a b[i]; rw [List.length_append]; omega), drop_at hi, List.flatMap_cons, List.append_assoc]
    have hin := d_spec_InAt (s := y0) hla qa
    rw [spec_InChanges_4_eq]
    simp -implicitDefEqProofs only [spec_InChanges_7_eq, spec_InChanges_9_eq, Int.ofNat_lt, hi, decide_true, branch_true, Int.natCast_nonneg, Bool.and_true, Int.toNat_natCast, guarded_true, sized_all (fun e he => (qb e he).len), getD_lt hi]
    rw [he]
    simp -implicitDefEqProofs only [bindE_eq, atK_zero, atK_succ, intK_int, strK_str, boolK_bool, slK_sl, hin, d_spec_Needed h3, Option.bind_some, svLeafK_leaf, room hro, room2 hro, guarded_true]
    have pb : perB o a b[i] = if idxOf y0 0 a ≥ 0 then [] else [chg (if (ends y3 33 && !y4) = true then 8 else 20) o y0] := by
      rw [he]; rfl
    by_cases hk : idxOf y0 0 a ≥ 0
    · simp -implicitDefEqProofs only [hk, decide_true, branch_true]
      exact next _ (by rw [pb, if_pos hk]; simp)
    · simp -implicitDefEqProofs only [hk, decide_false, branch_false]
      rw [if_neg hk] at pb
      cases hn : ends y3 33 <;> cases hy : y4 <;> simp -implicitDefEqProofs only [hn, hy, beq_self_eq_true, branch_true, branch_false, Bool.not_true, Bool.not_false, show ((false : Bool) == true) = false from rfl] <;> exact next _ (by rw [pb, hn, hy]; rfl)
theorem d_spec_InChanges (ha : a.length ≤ 1048576) (hb : b.length ≤ 1048576) (qa : ∀ e ∈ a, IsInDef e) (qb : ∀ e ∈ b, IsInDef e) : Dn F.spec_InChanges [.leaf (.str o), vsl a, vsl b] [] = some (.own (some T.impl_Change) (inCh o a b), []) := by
  apply den_of
  rw [run_spec_InChanges]
  have h1 := spec_A_from (o := o) ha hb qa qb 0 (Nat.zero_le _) [] (by simp)
  have hl := flatMap_len (fun x => perA_len o b x) a
  have h2 := spec_B_from (o := o) ha hb qa qb 0 (Nat.zero_le _) (a.flatMap (perA o b)) (by omega)
  simp only [List.drop_zero, List.nil_append] at h1 h2
  exact h1.trans h2
end
end Go.Vs
end
section
open Go Go.Vs Go.Proofs
set_option linter.unusedVariables false
set_option linter.unusedSimpArgs false
namespace Go.Vs
/-! ### Names in order -/
structure Ordered (es r : List El) : Prop where
  up : Rising r
  mem : ∀ s, (∃ e ∈ r, key e = s) ↔ ∃ e ∈ es, key e = s
  len : r.length ≤ es.length
  sub : ∀ e ∈ r, e ∈ es
theorem bl (x y : List UInt8) : Op.bytesLess x y = decide (x < y) := Go.Proofs.bytesLess_eq x y
theorem bl_le (x y : List UInt8) : (Op.bytesLess x y || x == y) = decide (x ≤ y) := by
  rw [bl, Bool.eq_iff_iff]
  simp only [Bool.or_eq_true, decide_eq_true_eq, beq_iff_eq]
  constructor
  · rintro (h | h)
    · exact List.le_of_lt h
    · rw [h]; exact leR y
  · intro h
    by_cases hlt : x < y
    · exact .inl hlt
    · exact .inr (leA h (ltI.1 hlt))
theorem str_key {e : El} {s : ByteArray} (h : e = [.str s]) : key e = s.toList ∧ strAt e 0 = s := by subst h; exact ⟨rfl, rfl⟩
theorem room16 {n : Nat} (h : n ≤ 4194304) : (decide ((n + 1) * 16 ≤ maxBytes) && true) = true ∧ decide ((n + 1) * 16 ≤ maxBytes) = true := by
  have hb : maxBytes = 140737488355328 := rfl
  have : (n + 1) * 16 ≤ maxBytes := by omega
  simp [this]
theorem merge_from {a b : List El} (ha : a.length ≤ 1048576) (hb : b.length ≤ 1048576) (qa : ∀ e ∈ a, IsStr e) (qb : ∀ e ∈ b, IsStr e) : ∀ (n i k : Nat) (out : List El), n = (a.length - i) + (b.length - k) → i ≤ a.length → k ≤ b.length → out.length ≤ i + k → (∀ e ∈ out, IsStr e) →
    spec_l18Sorted_A Dn (spec_l18Sorted_0 a b out i k) = some (.own (some T.string) (fin (a.drop i) (b.drop k) out), []) := by
  have hml : (1048576 : Nat) ≤ maxLen := by decide
  intro n
  induction n with
  | zero =>
    intro i k out hn hi hk ho qo
    have h1 : ¬ i < a.length := by omega
    have h2 : ¬ k < b.length := by omega
    rw [spec_l18Sorted_0_eq]
    simp -implicitDefEqProofs only [Int.ofNat_lt, h1, h2, decide_false, spec_l18Sorted_1_eq, branch_false, beq_self_eq_true, branch_true]
    rw [List.drop_of_length_le (by omega), List.drop_of_length_le (by omega)]
    unfold fin; rfl
  | succ n ih =>
    intro i k out hn hi hk ho qo
    have hro : out.length ≤ 4194304 := by omega
    -- what is pushed, and where one goes on
    have st4 : ∀ (i' k' : Int) (s : ByteArray), spec_l18Sorted_A Dn (spec_l18Sorted_3 a b out i' k' s) = spec_l18Sorted_A Dn (spec_l18Sorted_0 a b (push out [.str s]) i' k') := fun i' k' s => by
      rw [spec_l18Sorted_3_eq]
      by_cases h0 : out = []
      · subst h0
        simp -implicitDefEqProofs only [List.length_nil, Int.natCast_zero, Int.ofNat_zero, beq_self_eq_true, show ((true : Bool) == false) = false from rfl, branch_false, spec_l18Sorted_4_eq, branch_true, (room16 (n := 0) (by omega)).1, Nat.zero_add, guarded_true]
        simp [push]
      · have hp : 0 < out.length := List.length_pos_iff.2 h0
        have hz : (((out.length : Nat) : Int) == 0) = false := by simp; omega
        have hw : IntKind.i64.wrap ((out.length : Int) - 1) = ((out.length - 1 : Nat) : Int) := wrap_sub (show out.length ≤ maxLen from Nat.le_trans hro (by decide)) (show 1 ≤ out.length by omega)
        have hlt : out.length - 1 < out.length := by omega
        obtain ⟨u, hu, _⟩ := qo _ (List.getElem_mem hlt)
        have hlast : out.getLast? = some [.str u] := by rw [List.getLast?_eq_getElem?, List.getElem?_eq_getElem hlt, hu]
        rw [hz, hw]
        simp -implicitDefEqProofs only [beq_self_eq_true, branch_true, Int.natCast_nonneg, decide_true, Int.ofNat_lt, hlt, Bool.and_true, Bool.true_and, Int.toNat_natCast, sized_all (fun e he => (qo e he).len), guarded_true, getD_lt hlt, hu, atK_zero, strK_str, spec_l18Sorted_4_eq, (room16 hro).1, (room16 hro).2]
        unfold push
        rw [hlast]
        simp only [Option.map_some, Option.some.injEq, (str_key (s := u) rfl).1, (str_key (s := s) rfl).1]
        by_cases hus : u.toList = s.toList
        · simp [hus]
        · have hub : (u.toList == s.toList) = false := by simpa using hus
          rw [hub, if_neg hus, Bool.not_false, branch_true]
    have qo' : ∀ e, IsStr e → ∀ x ∈ push out e, IsStr x := fun e he x hx => by
      rcases push_sub hx with h | rfl
      · exact qo x h
      · exact he
    have hA : ∀ h : i < a.length, spec_l18Sorted_A Dn (spec_l18Sorted_2 a b out i k true) = some (.own (some T.string) (fin (a.drop (i + 1)) (b.drop k) (push out a[i])), []) := fun h => by
      obtain ⟨s, hs, hsl⟩ := qa _ (List.getElem_mem h)
      rw [spec_l18Sorted_2_eq]
      simp -implicitDefEqProofs only [branch_true, Int.natCast_nonneg, decide_true, Int.ofNat_lt, h, Bool.and_true, Bool.true_and, Int.toNat_natCast, sized_all (fun e he => (qa e he).len), guarded_true, getD_lt h, hs, atK_zero, strK_str, st4, wrap_upL (Nat.lt_of_lt_of_le h (Nat.le_trans ha hml))]
      exact ih (i + 1) k _ (by omega) (by omega) hk (by have := push_len out [.str s]; omega) (qo' _ ⟨s, rfl, hsl⟩)
    have hB : ∀ h : k < b.length, spec_l18Sorted_A Dn (spec_l18Sorted_2 a b out i k false) = some (.own (some T.string) (fin (a.drop i) (b.drop (k + 1)) (push out b[k])), []) := fun h => by
      obtain ⟨s, hs, hsl⟩ := qb _ (List.getElem_mem h)
      rw [spec_l18Sorted_2_eq]
      simp -implicitDefEqProofs only [branch_false, Int.natCast_nonneg, decide_true, Int.ofNat_lt, h, Bool.and_true, Bool.true_and, Int.toNat_natCast, sized_all (fun e he => (qb e he).len), guarded_true, getD_lt h, hs, atK_zero, strK_str, st4, wrap_upL (Nat.lt_of_lt_of_le h (Nat.le_trans hb hml))]
      exact ih i (k + 1) _ (by omega) hi (by omega) (by have := push_len out [.str s]; omega) (qo' _ ⟨s, rfl, hsl⟩)
    rw [spec_l18Sorted_0_eq]
    by_cases h1 : i < a.length
    · by_cases h2 : k < b.length
      · have hge : ¬ ((k : Int) ≥ (b.length : Int)) := by omega
        obtain ⟨s, hs, _⟩ := qa _ (List.getElem_mem h1)
        obtain ⟨u, hu, _⟩ := qb _ (List.getElem_mem h2)
        simp -implicitDefEqProofs only [Int.ofNat_lt, h1, h2, decide_true, show ((true : Bool) == false) = false from rfl, branch_false, spec_l18Sorted_1_eq, branch_true, hge, decide_false, beq_self_eq_true, Int.natCast_nonneg, Bool.and_true, Bool.true_and, Int.toNat_natCast, sized_all (fun e he => (qa e he).len), sized_all (fun e he => (qb e he).len), guarded_true, getD_lt h1, getD_lt h2, hs, hu, atK_zero, strK_str, bl_le]
        rw [drop_at h1, drop_at h2]
        unfold fin
        rw [hs, hu, (str_key (s := s) rfl).1, (str_key (s := u) rfl).1]
        by_cases hc : s.toList ≤ u.toList
        · rw [if_pos hc, decide_eq_true hc, hA h1, drop_at h2, hs, hu]
        · rw [if_neg hc, decide_eq_false hc, hB h2, drop_at h1, hs, hu]
      · have hge : ((k : Int) ≥ (b.length : Int)) := by omega
        simp -implicitDefEqProofs only [Int.ofNat_lt, h1, h2, decide_true, decide_false, show ((true : Bool) == false) = false from rfl, branch_false, spec_l18Sorted_1_eq, branch_true, hge]
        rw [hA h1, drop_at h1, List.drop_of_length_le (show b.length ≤ k by omega)]
        conv => rhs; unfold fin
    · have h2 : k < b.length := by omega
      have hge : ¬ ((k : Int) ≥ (b.length : Int)) := by omega
      simp -implicitDefEqProofs only [Int.ofNat_lt, h1, h2, decide_true, decide_false, beq_self_eq_true, branch_true, spec_l18Sorted_1_eq, hge, show ((false : Bool) == true) = false from rfl, branch_false]
      rw [hB h2, drop_at h2, List.drop_of_length_le (show a.length ≤ i by omega)]
      conv => rhs; unfold fin
theorem sorted_ex : ∀ (n : Nat) (es : List El), es.length = n → es.length ≤ 1048576 → (∀ e ∈ es, IsStr e) → ∃ r, Dn F.spec_l18Sorted [vsl es] [] = some (.own (some T.string) r, []) ∧ Ordered es r := by
  intro n
  induction n using Nat.strongRecOn with
  | ind n ih =>
    intro es hn hl q
    have hml : (1048576 : Nat) ≤ maxLen := by decide
    have hsz := sized_all (fun e he => (q e he).len)
    by_cases h2 : es.length < 2
    · have h2' : ((es.length : Nat) : Int) < 2 := by omega
      refine ⟨es, ?_, ⟨?_, fun s => Iff.rfl, Nat.le_refl _, fun e he => he⟩⟩
      · apply den_of
        rw [run_spec_l18Sorted]
        have hb : maxBytes = 140737488355328 := rfl
        have : decide ((0 + es.length) * 16 ≤ maxBytes) = true := decide_eq_true (by omega)
        simp only [h2', decide_true, branch_true, this, hsz, Bool.and_self, guarded_true, List.nil_append]
      · unfold Rising
        match es, h2 with
        | [], _ => exact List.Pairwise.nil
        | [x], _ => simp
    · have h2' : ¬ ((es.length : Nat) : Int) < 2 := by omega
      have hd : IntKind.i64.wrap ((es.length : Int).tdiv 2) = ((es.length / 2 : Nat) : Int) := by
        have hm : maxLen = 9223372036854775807 := rfl
        rw [Int.tdiv_eq_ediv_of_nonneg (by omega), wrap64 (by omega) (by omega)]; omega
      have hle : es.length / 2 ≤ es.length := Nat.div_le_self _ _
      obtain ⟨r1, k1, o1⟩ := ih (es.take (es.length / 2)).length (by rw [List.length_take]; omega) (es.take (es.length / 2)) rfl (by rw [List.length_take]; omega) (fun e he => q e (List.mem_of_mem_take he))
      obtain ⟨r2, k2, o2⟩ := ih (es.drop (es.length / 2)).length (by rw [List.length_drop]; omega) (es.drop (es.length / 2)) rfl (by rw [List.length_drop]; omega) (fun e he => q e (List.mem_of_mem_drop he))
      have l1 : r1.length ≤ 1048576 := by have := o1.len; rw [List.length_take] at this; omega
      have l2 : r2.length ≤ 1048576 := by have := o2.len; rw [List.length_drop] at this; omega
      have m := merge_from l1 l2 (fun e he => q e (List.mem_of_mem_take (o1.sub e he))) (fun e he => q e (List.mem_of_mem_drop (o2.sub e he))) _ 0 0 [] rfl (Nat.zero_le _) (Nat.zero_le _) (by simp) (by simp)
      have j := fin_joins _ r1 r2 [] rfl o1.up o2.up List.Pairwise.nil (by simp) (by simp)
      simp only [List.drop_zero] at m
      refine ⟨fin r1 r2 [], ?_, ⟨j.up, fun s => ?_, ?_, fun e he => ?_⟩⟩
      · apply den_of
        rw [run_spec_l18Sorted]
        simp -implicitDefEqProofs only [h2', decide_false, branch_false, hd, Int.natCast_nonneg, decide_true, Int.toNat_natCast, Option.getD_some, Option.getD_none, hle, Nat.le_refl, hsz, Bool.and_self, Bool.true_and, Bool.and_true, guarded_true, List.drop_zero, k1, Option.bind_some, svOwnK_own, List.take_length]
        rw [show Dn F.spec_l18Sorted [SV.leaf (Leaf.sl (Fl.later PUnit.unit (some (es.length / 2))) (es.drop (es.length / 2)))] [] = _ from k2]
        simp only [Option.bind_some, svOwnK_own]
        exact m
      · rw [j.mem]
        simp only [List.not_mem_nil, false_and, exists_false, false_or]
        rw [o1.mem, o2.mem]
        constructor
        · rintro (⟨e, he, hs⟩ | ⟨e, he, hs⟩)
          · exact ⟨e, List.mem_of_mem_take he, hs⟩
          · exact ⟨e, List.mem_of_mem_drop he, hs⟩
        · rintro ⟨e, he, hs⟩
          rw [← List.take_append_drop (es.length / 2) es] at he
          rcases List.mem_append.1 he with he | he
          · exact .inl ⟨e, he, hs⟩
          · exact .inr ⟨e, he, hs⟩
      · have := j.len; have := o1.len; have := o2.len
        rw [List.length_take] at *; rw [List.length_drop] at *
        simp at *; omega
      · rcases j.sub e he with h | h | h
        · simp at h
        · exact List.mem_of_mem_take (o1.sub e h)
        · exact List.mem_of_mem_drop (o2.sub e h)
end Go.Vs
end
section
/- What is counted and lasts is not too long, wherever it lies. -/
set_option linter.unusedVariables false
namespace Go.Vs
mutual
/-- Texts and rows, wherever they lie, are no longer than that. -/
def bdF (B : Nat) : Leaf false → Prop
  | .str s => s.size ≤ B
  | .sl _ es => es.length ≤ B ∧ bdE B es
  | _ => True
def bdL (B : Nat) : List (Leaf false) → Prop
  | [] => True
  | l :: r => bdF B l ∧ bdL B r
def bdE (B : Nat) : List (List (Leaf false)) → Prop
  | [] => True
  | e :: es => bdL B e ∧ bdE B es
end
theorem bdE_mem {B : Nat} : ∀ {es : List (List (Leaf false))}, bdE B es → ∀ e ∈ es, bdL B e
  | x :: r, h, e, he => by
    rw [bdE] at h
    rcases List.mem_cons.1 he with rfl | he
    · exact h.1
    · exact bdE_mem h.2 e he
mutual
theorem szF_bd {z B : Nat} (hB : (B : Int) ≤ cap) : ∀ (l : Leaf false) (n : Int), okF z l → 0 ≤ n → n ≤ B → 0 ≤ szF l n → bdF B l
  | .str s, n, ho, h0, hn, h => by
    have hm : maxLen = 9223372036854775807 := rfl
    simp only [okF] at ho
    simp only [szF, bdF, cap] at *
    rw [wrap64 (by omega) (by omega)] at h
    split at h <;> omega
  | .sl _ es, n, ho, h0, hn, h => by
    have hm : maxLen = 9223372036854775807 := rfl
    simp only [okF] at ho
    simp only [szF, bdF] at *
    rw [wrap64 (by simp only [cap] at hB; omega) (by simp only [cap] at hB; omega)] at h
    by_cases hl : n - (es.length : Int) < 0
    · simp [hl] at h
    · simp only [hl, if_false] at h
      exact ⟨by omega, szE_bd hB es _ ho.2 (by omega) (by omega) h⟩
  | .bool _, n, _, _, _, _ => by simp [bdF]
  | .int _ _, n, _, _, _, _ => by simp [bdF]
  | .unk, n, _, _, _, _ => by simp [bdF]
  | .nl _, n, _, _, _, _ => by simp [bdF]
theorem szL_bd {z B : Nat} (hB : (B : Int) ≤ cap) : ∀ (l : List (Leaf false)) (n : Int), okL z l → 0 ≤ n → n ≤ B → 0 ≤ szL l n → bdL B l
  | [], n, _, _, _, _ => by simp [bdL]
  | l :: r, n, ho, h0, hn, h => by
    simp only [okL] at ho
    simp only [szL, bdL] at *
    by_cases hl : szF l n < 0
    · simp [hl] at h
    · simp only [hl, if_false] at h
      have h1 := szF_t l n ho.1 h0 (by omega) (by omega)
      exact ⟨szF_bd hB l n ho.1 h0 hn (by omega), szL_bd hB r _ ho.2 (by omega) (by omega) h⟩
theorem szE_bd {z B : Nat} (hB : (B : Int) ≤ cap) : ∀ (l : List (List (Leaf false))) (n : Int), okE z l → 0 ≤ n → n ≤ B → 0 ≤ szE l n → bdE B l
  | [], n, _, _, _, _ => by simp [bdE]
  | e :: r, n, ho, h0, hn, h => by
    simp only [okE] at ho
    simp only [szE, bdE] at *
    by_cases hl : szL e n < 0
    · simp [hl] at h
    · simp only [hl, if_false] at h
      have h1 := szL_t e n ho.2.1 h0 (by omega) (by omega)
      exact ⟨szL_bd hB e n ho.2.1 h0 hn (by omega), szE_bd hB r _ ho.2.2 (by omega) (by omega) h⟩
end
end Go.Vs
end
section
open Go Go.Vs Go.Proofs
set_option linter.unusedVariables false
set_option linter.unusedSimpArgs false
namespace Go.Vs
/-! ### Names that are otherwise; fields -/
def hasName (l : List El) (s : ByteArray) : Bool := l.any fun e => (strAt e 0).toList == s.toList
def nameCh (o : ByteArray) (a b : List El) (gone fresh : Int) : List El :=
  (a.flatMap fun x => if hasName b (strAt x 0) = true then [] else [chg gone o (strAt x 0)]) ++ b.flatMap fun y => if hasName a (strAt y 0) = true then [] else [chg fresh o (strAt y 0)]
theorem hasName_iff {l : List El} {s : ByteArray} : hasName l s = true ↔ ∃ e ∈ l, key e = s.toList := by
  unfold hasName key
  rw [List.any_eq_true]
  simp only [beq_iff_eq]
/-- Looked at by halves. -/
theorem half_from {l : List El} {s : ByteArray} (hl : l.length ≤ 1048576) (q : ∀ e ∈ l, IsStr e) (hr : Rising l) : ∀ (n lo hi : Nat), n = hi - lo → lo ≤ hi → hi ≤ l.length →
    (∀ (j : Nat) (h : j < l.length), j < lo → key l[j] < s.toList) → (∀ (j : Nat) (h : j < l.length), hi ≤ j → s.toList ≤ key l[j]) →
    spec_l31In_A Dn (spec_l31In_0 l s lo hi) = some (vbool (hasName l s), []) := by
  have hm : maxLen = 9223372036854775807 := rfl
  intro n
  induction n using Nat.strongRecOn with
  | ind n ih =>
    intro lo hi hn hlh hhl h1 h2
    rw [spec_l31In_0_eq]
    by_cases hc : lo < hi
    · have hmid : IntKind.i64.wrap ((IntKind.i64.wrap ((lo : Int) + (hi : Int))).tdiv 2) = (((lo + hi) / 2 : Nat) : Int) := by
        rw [wrap64 (z := (lo : Int) + hi) (by omega) (by omega), Int.tdiv_eq_ediv_of_nonneg (by omega), wrap64 (by omega) (by omega)]; omega
      have hmlt : (lo + hi) / 2 < l.length := by omega
      obtain ⟨u, hu, _⟩ := q _ (List.getElem_mem hmlt)
      have hk : key l[(lo + hi) / 2] = u.toList := by rw [hu]; rfl
      have hup : IntKind.i64.wrap ((((lo + hi) / 2 : Nat) : Int) + 1) = (((lo + hi) / 2 + 1 : Nat) : Int) := wrap_upL (by omega)
      have hc' : ((lo : Int) < (hi : Int)) := by omega
      simp -implicitDefEqProofs only [hc', decide_true, branch_true, hmid, hup, Int.natCast_nonneg, Int.ofNat_lt, hmlt, Bool.and_true, Bool.and_self, Int.toNat_natCast, sized_all (fun e he => (q e he).len), guarded_true, getD_lt hmlt, hu, atK_zero, strK_str, bl]
      rw [branch_ite]
      simp -implicitDefEqProofs only [decide_eq_true_eq]
      by_cases hb : u.toList < s.toList
      · rw [if_pos hb]
        have g := ih (hi - ((lo + hi) / 2 + 1)) (by omega) ((lo + hi) / 2 + 1) hi rfl (by omega) hhl (fun j hj hjl => ?_) h2
        · exact g
        have hle : j ≤ (lo + hi) / 2 := by omega
        have := rising_at hr hle hmlt
        rw [hk] at this
        exact List.lt_of_le_of_lt this hb
      · rw [if_neg hb]
        have g := ih ((lo + hi) / 2 - lo) (by omega) lo ((lo + hi) / 2) rfl (by omega) (by omega) h1 (fun j hj hjl => ?_)
        · exact g
        have := rising_at hr hjl hj
        rw [hk] at this
        exact leT (ltI.1 hb) this
    · have he : lo = hi := by omega
      subst he
      have hv := halves hr h1 h2
      rw [← hasName_iff] at hv
      have hc' : ¬ ((lo : Int) < (lo : Int)) := by omega
      by_cases hlt : lo < l.length
      · obtain ⟨u, hu, _⟩ := q _ (List.getElem_mem hlt)
        have hk : key l[lo] = u.toList := by rw [hu]; rfl
        simp -implicitDefEqProofs only [hc', decide_false, branch_false, Int.ofNat_lt, hlt, decide_true, beq_self_eq_true, branch_true, Int.natCast_nonneg, Bool.and_true, Bool.and_self, Int.toNat_natCast, sized_all (fun e he => (q e he).len), guarded_true, getD_lt hlt, hu, atK_zero, strK_str]
        have : (u.toList == s.toList) = hasName l s := by
          rw [Bool.eq_iff_iff, hv, beq_iff_eq]
          constructor
          · intro h; exact ⟨hlt, by rw [hk]; exact h⟩
          · rintro ⟨_, h⟩; rw [hk] at h; exact h
        rw [this]
      · have : hasName l s = false := by
          rw [Bool.eq_false_iff]
          intro h
          obtain ⟨h, _⟩ := hv.1 h
          exact hlt h
        simp -implicitDefEqProofs only [hc', decide_false, branch_false, Int.ofNat_lt, hlt, show ((false : Bool) == true) = false from rfl, this]
theorem d_spec_l31In {l : List El} {s : ByteArray} (hl : l.length ≤ 1048576) (q : ∀ e ∈ l, IsStr e) (hr : Rising l) : Dn F.spec_l31In [vsl l, .leaf (.str s)] [] = some (vbool (hasName l s), []) := by
  apply den_of
  rw [run_spec_l31In]
  exact half_from hl q hr l.length 0 l.length rfl (Nat.zero_le _) (Nat.le_refl _) (fun j h hj => by omega) (fun j h hj => by omega)
section
variable {o : ByteArray} {a b ra rb : List El} {gone fresh : Int}
theorem has_ordered {r : List El} (h : Ordered a r) (s : ByteArray) : hasName r s = hasName a s := by
  rw [Bool.eq_iff_iff, hasName_iff, hasName_iff]; exact h.mem _
theorem spec_names_A (ha : a.length ≤ 1048576) (hb : b.length ≤ 1048576) (qa : ∀ e ∈ a, IsStr e) (qb : ∀ e ∈ b, IsStr e) (ob : Ordered b rb) : ∀ i : Nat, i ≤ a.length → ∀ out : List El, out.length ≤ i →
    spec_NameChanges_A Dn (spec_NameChanges_0 o a b gone fresh out ra rb i) = spec_NameChanges_A Dn (spec_NameChanges_2 o b fresh (out ++ (a.drop i).flatMap fun x => if hasName b (strAt x 0) = true then [] else [chg gone o (strAt x 0)]) ra 0) := by
  have hml : (1048576 : Nat) ≤ maxLen := by decide
  refine upto_ind ?_ ?_
  · intro out ho; rw [spec_NameChanges_0_eq]; simp
  · intro i hi ih out ho
    have hro : out.length ≤ 4194304 := by omega
    obtain ⟨u, hu, _⟩ := qa _ (List.getElem_mem hi)
    have hin := d_spec_l31In (s := u) (Nat.le_trans ob.len hb) (fun e he => qb e (ob.sub e he)) ob.up
    rw [spec_NameChanges_0_eq]
    simp -implicitDefEqProofs only [Int.ofNat_lt, hi, decide_true, branch_true, Int.natCast_nonneg, Bool.and_true, Bool.and_self, Int.toNat_natCast, guarded_true, sized_all (fun e he => (qa e he).len), getD_lt hi, hu, atK_zero, strK_str, hin, has_ordered ob, Option.bind_some, svLeafK_leaf, boolK_bool, room hro, room2 hro, spec_NameChanges_1_eq, wrap_upL (Nat.lt_of_lt_of_le hi (Nat.le_trans ha hml))]
    rw [branch_ite]
    rw [drop_at hi, List.flatMap_cons, hu, show strAt [Leaf.str u] 0 = u from rfl]
    cases hasName b u
    · simp -implicitDefEqProofs only [Bool.not_false, if_true, Bool.false_eq_true, if_false]
      rw [ih _ (by rw [List.length_append]; simp; omega), List.append_assoc]; rfl
    · simp -implicitDefEqProofs only [Bool.not_true, if_true, Bool.false_eq_true, if_false, List.nil_append]
      exact ih _ (by omega)
theorem spec_names_B (ha : a.length ≤ 1048576) (hb : b.length ≤ 1048576) (qa : ∀ e ∈ a, IsStr e) (qb : ∀ e ∈ b, IsStr e) (oa : Ordered a ra) : ∀ i : Nat, i ≤ b.length → ∀ out : List El, out.length ≤ 1048576 + i →
    spec_NameChanges_A Dn (spec_NameChanges_2 o b fresh out ra i) = some (.own (some T.impl_Change) (out ++ (b.drop i).flatMap fun y => if hasName a (strAt y 0) = true then [] else [chg fresh o (strAt y 0)]), []) := by
  have hml : (1048576 : Nat) ≤ maxLen := by decide
  refine upto_ind ?_ ?_
  · intro out ho; rw [spec_NameChanges_2_eq]; simp
  · intro i hi ih out ho
    have hro : out.length ≤ 4194304 := by omega
    obtain ⟨u, hu, _⟩ := qb _ (List.getElem_mem hi)
    have hin := d_spec_l31In (s := u) (Nat.le_trans oa.len ha) (fun e he => qa e (oa.sub e he)) oa.up
    rw [spec_NameChanges_2_eq]
    simp -implicitDefEqProofs only [Int.ofNat_lt, hi, decide_true, branch_true, Int.natCast_nonneg, Bool.and_true, Bool.and_self, Int.toNat_natCast, guarded_true, sized_all (fun e he => (qb e he).len), getD_lt hi, hu, atK_zero, strK_str, hin, has_ordered oa, Option.bind_some, svLeafK_leaf, boolK_bool, room hro, room2 hro, spec_NameChanges_3_eq, wrap_upL (Nat.lt_of_lt_of_le hi (Nat.le_trans hb hml))]
    rw [branch_ite]
    rw [drop_at hi, List.flatMap_cons, hu, show strAt [Leaf.str u] 0 = u from rfl]
    cases hasName a u
    · simp -implicitDefEqProofs only [Bool.not_false, if_true, Bool.false_eq_true, if_false]
      rw [ih _ (by rw [List.length_append]; simp; omega), List.append_assoc]; rfl
    · simp -implicitDefEqProofs only [Bool.not_true, if_true, Bool.false_eq_true, if_false, List.nil_append]
      exact ih _ (by omega)
theorem d_spec_NameChanges (ha : a.length ≤ 1048576) (hb : b.length ≤ 1048576) (qa : ∀ e ∈ a, IsStr e) (qb : ∀ e ∈ b, IsStr e) : Dn F.spec_NameChanges [.leaf (.str o), vsl a, vsl b, vint gone, vint fresh] [] = some (.own (some T.impl_Change) (nameCh o a b gone fresh), []) := by
  obtain ⟨ra, ka, oa⟩ := sorted_ex _ a rfl ha qa
  obtain ⟨rb, kb, ob⟩ := sorted_ex _ b rfl hb qb
  have h1 := spec_names_A (o := o) (ra := ra) (gone := gone) (fresh := fresh) ha hb qa qb ob 0 (Nat.zero_le _) [] (by simp)
  have hl : (a.flatMap fun x => if hasName b (strAt x 0) = true then [] else [chg gone o (strAt x 0)]).length ≤ 1 * a.length := flatMap_len (fun x => by split <;> simp) a
  have h2 := spec_names_B (o := o) (fresh := fresh) ha hb qa qb oa 0 (Nat.zero_le _) (a.flatMap fun x => if hasName b (strAt x 0) = true then [] else [chg gone o (strAt x 0)]) (by omega)
  simp only [List.drop_zero, List.nil_append] at h1 h2
  apply den_of
  rw [run_spec_NameChanges]
  simp -implicitDefEqProofs only [ka, kb, Option.bind_some, svOwnK_own]
  exact h1.trans h2
end
end Go.Vs
end
section
open Go Go.Vs Go.Proofs
set_option linter.unusedVariables false
set_option linter.unusedSimpArgs false
namespace Go.Vs
/-! ### Definitions that are otherwise -/
def slAt (e : El) (p : Nat) : List El := match e[p]? with | some (.sl _ es) => es | _ => []
def intAt (e : El) (p : Nat) : Int := match e[p]? with | some (.int _ n) => n | _ => 0
abbrev dot : ByteArray := ByteArray.mk #[46]
abbrev nul : ByteArray := ByteArray.mk #[]
def tyCh (nm : ByteArray) (x y : El) : List El := if (!(strAt x 3 == strAt y 3 && strAt x 4 == strAt y 4)) = true then [chg 5 nm (strAt x 0)] else []
noncomputable def fldA (nm : ByteArray) (b : List El) (x : El) : List El :=
  if idxOf (strAt x 0) 0 b < 0 then [chg 4 nm (strAt x 0)] else
    tyCh nm x (b.getD (idxOf (strAt x 0) 0 b).toNat []) ++ inCh (nm ++ dot ++ strAt x 0) (slAt x 2) (slAt (b.getD (idxOf (strAt x 0) 0 b).toNat []) 2)
def fldB (nm : ByteArray) (a : List El) (y : El) : List El := if idxOf (strAt y 0) 0 a < 0 then [chg 18 nm (strAt y 0)] else []
noncomputable def fldCh (nm : ByteArray) (a b : List El) : List El := a.flatMap (fldA nm b) ++ b.flatMap (fldB nm a)
def vals (l : List El) : List El := l.map fun e => [.str (strAt e 0)]
structure FOk (e : El) : Prop where
  is : IsFieldDef e
  nm : (strAt e 0).size ≤ 1048576
  args : (slAt e 2).length ≤ 1048576
theorem roomL {n k : Nat} (h : n + k ≤ 3400000000000) : decide ((n + k) * 40 ≤ maxBytes) = true := by
  have hb : maxBytes = 140737488355328 := rfl
  rw [decide_eq_true_eq]; omega
theorem inCh_len (o : ByteArray) (a b : List El) : (inCh o a b).length ≤ 2 * a.length + b.length := by
  unfold inCh
  have h1 := flatMap_len (fun x => perA_len o b x) a
  have h2 := flatMap_len (fun x => perB_len o a x) b
  rw [List.length_append]; omega
theorem tyCh_len (nm : ByteArray) (x y : El) : (tyCh nm x y).length ≤ 1 := by unfold tyCh; split <;> simp
theorem idx_get {s : ByteArray} {b : List El} (h : ¬ idxOf s 0 b < 0) : ∃ j : Nat, idxOf s 0 b = (j : Int) ∧ j < b.length := by
  rcases idxOf_lt s b 0 (by omega) with h1 | ⟨h1, h2⟩
  · omega
  · exact ⟨(idxOf s 0 b).toNat, by omega, by omega⟩
theorem fldA_len {nm : ByteArray} {b : List El} {x : El} (hx : FOk x) (hb : ∀ e ∈ b, FOk e) : (fldA nm b x).length ≤ 3145729 := by
  unfold fldA
  split
  · simp
  · rename_i h
    obtain ⟨j, hj, hjb⟩ := idx_get h
    rw [hj, Int.toNat_natCast, getD_lt hjb, List.length_append]
    have h1 := tyCh_len nm x b[j]
    have h2 := inCh_len (nm ++ dot ++ strAt x 0) (slAt x 2) (slAt b[j] 2)
    have h3 := hx.args
    have h4 := (hb _ (List.getElem_mem hjb)).args
    omega
theorem fldB_len (nm : ByteArray) (a : List El) (y : El) : (fldB nm a y).length ≤ 1 := by unfold fldB; split <;> simp
theorem flatMap_lenM {α β : Type} {f : α → List β} {k : Nat} : ∀ {l : List α}, (∀ x ∈ l, (f x).length ≤ k) → (l.flatMap f).length ≤ k * l.length
  | [], _ => by simp
  | x :: l, h => by
    have h1 := h x (by simp)
    have h2 := flatMap_lenM (l := l) fun y hy => h y (by simp [hy])
    rw [List.flatMap_cons, List.length_append, List.length_cons, Nat.mul_add]; omega
theorem nameCh_len (o : ByteArray) (a b : List El) (g f : Int) : (nameCh o a b g f).length ≤ a.length + b.length := by
  unfold nameCh
  have h1 : (a.flatMap fun x => if hasName b (strAt x 0) = true then [] else [chg g o (strAt x 0)]).length ≤ 1 * a.length := flatMap_len (fun x => by split <;> simp) a
  have h2 : (b.flatMap fun y => if hasName a (strAt y 0) = true then [] else [chg f o (strAt y 0)]).length ≤ 1 * b.length := flatMap_len (fun x => by split <;> simp) b
  rw [List.length_append]; omega
theorem fldCh_len {nm : ByteArray} {a b : List El} (ha : a.length ≤ 1048576) (hb : b.length ≤ 1048576) (qa : ∀ e ∈ a, FOk e) (qb : ∀ e ∈ b, FOk e) : (fldCh nm a b).length ≤ 3298536980480 := by
  unfold fldCh
  have h1 := flatMap_lenM (f := fldA nm b) (l := a) fun x hx => fldA_len (nm := nm) (qa x hx) qb
  have h2 := flatMap_len (f := fldB nm a) (fun x => fldB_len nm a x) b
  rw [List.length_append]; omega
theorem nameCh_all {o : ByteArray} {a b : List El} {g f : Int} : ∀ e ∈ nameCh o a b g f, IsChange e := by
  intro e he
  have h1 : ∀ {q : Bool} {c : Int} {p : ByteArray}, e ∈ (if q = true then [] else [chg c o p]) → IsChange e := fun {q c p} h => by
    split at h
    · simp at h
    · rw [List.mem_singleton.1 h]; exact .mk _ _ _
  rcases List.mem_append.1 he with he | he
  · obtain ⟨x, _, hx⟩ := List.mem_flatMap.1 he; exact h1 hx
  · obtain ⟨x, _, hx⟩ := List.mem_flatMap.1 he; exact h1 hx
theorem fldCh_all {nm : ByteArray} {a b : List El} : ∀ e ∈ fldCh nm a b, IsChange e := by
  intro e he
  rcases List.mem_append.1 he with he | he
  · obtain ⟨x, _, hx⟩ := List.mem_flatMap.1 he
    unfold fldA at hx
    split at hx
    · rw [List.mem_singleton.1 hx]; exact .mk _ _ _
    · rcases List.mem_append.1 hx with hx | hx
      · unfold tyCh at hx
        split at hx
        · rw [List.mem_singleton.1 hx]; exact .mk _ _ _
        · simp at hx
      · exact chg_all _ hx
  · obtain ⟨x, _, hx⟩ := List.mem_flatMap.1 he
    unfold fldB at hx
    split at hx
    · rw [List.mem_singleton.1 hx]; exact .mk _ _ _
    · simp at hx
/-! The reference. -/
theorem spec_l20Field_from {es : List El} {s : ByteArray} (hl : es.length ≤ maxLen) (hq : ∀ e ∈ es, IsFieldDef e) : ∀ i : Nat, i ≤ es.length →
    spec_l20Field_A Dn (spec_l20Field_0 es s i) = some (vint (idxOf s i (es.drop i)), []) := by
  refine upto_ind ?_ ?_
  · rw [spec_l20Field_0_eq]; simp [idxOf]
  · intro i hi ih
    obtain ⟨s0, s1, e2, s3, s4, e5, he, h0⟩ := (hq _ (List.getElem_mem hi)).ex
    rw [spec_l20Field_0_eq, drop_at hi]
    simp only [Int.ofNat_lt, hi, decide_true, branch_true, Int.natCast_nonneg, Bool.and_true, Int.toNat_natCast, guarded_true, wrap_upL (Nat.lt_of_lt_of_le hi hl), sized_all (fun e he => (hq e he).len), getD_lt hi]
    rw [he]
    simp only [atK_zero, strK_str, branch_ite, idxOf, strAt, List.getElem?_cons_zero, ih]
    by_cases hx : (s0.toList == s.toList) = true <;> simp [hx]
theorem d_spec_l20Field {es : List El} {s : ByteArray} (hl : es.length ≤ maxLen) (hq : ∀ e ∈ es, IsFieldDef e) : Dn F.spec_l20Field [vsl es, .leaf (.str s)] [] = some (vint (idxOf s 0 es), []) := by
  apply den_of
  rw [run_spec_l20Field]
  exact spec_l20Field_from hl hq 0 (Nat.zero_le _)
section
variable {i0 j0 : Int} {b1 b9 c1 c9 : Bool} {s2 nm t2 t3 : ByteArray} {e4 a e6 e7 e8 e10 f4 b f6 f7 f8 f10 : List El}
theorem spec_fields_A (hn : nm.size ≤ 1048576) (ha : a.length ≤ 1048576) (hb : b.length ≤ 1048576) (qa : ∀ e ∈ a, FOk e) (qb : ∀ e ∈ b, FOk e) : ∀ i : Nat, i ≤ a.length → ∀ out : List El, out.length ≤ i * 3145729 →
    spec_l31Fields_A Dn (spec_l31Fields_0 out i i0 b1 s2 nm e4 a e6 e7 e8 b9 e10 j0 c1 t2 t3 f4 b f6 f7 f8 c9 f10) =
      spec_l31Fields_A Dn (spec_l31Fields_3 (out ++ (a.drop i).flatMap (fldA nm b)) 0 i0 b1 s2 nm e4 a e6 e7 e8 b9 e10 j0 c1 t2 t3 f4 b f6 f7 f8 c9 f10) := by
  have hml : (1048576 : Nat) ≤ maxLen := by decide
  have hla : a.length ≤ maxLen := Nat.le_trans ha hml
  have hlb : b.length ≤ maxLen := Nat.le_trans hb hml
  refine upto_ind ?_ ?_
  · intro out ho; rw [spec_l31Fields_0_eq]; simp
  · intro i hi ih out ho
    have hro : out.length + 3145729 ≤ 3400000000000 := by omega
    have hxi := qa _ (List.getElem_mem hi)
    have hlen := fldA_len (nm := nm) hxi qb
    obtain ⟨x0, x1, x2, x3, x4, x5, he, h0, h1, h2, q2, h3, h4, h5, q5⟩ := hxi.is.ex
    have next : ∀ out' : List El, out' = out ++ fldA nm b a[i] → spec_l31Fields_A Dn (spec_l31Fields_1 out' i i0 b1 s2 nm e4 a e6 e7 e8 b9 e10 j0 c1 t2 t3 f4 b f6 f7 f8 c9 f10) = spec_l31Fields_A Dn (spec_l31Fields_3 (out ++ (a.drop i).flatMap (fldA nm b)) 0 i0 b1 s2 nm e4 a e6 e7 e8 b9 e10 j0 c1 t2 t3 f4 b f6 f7 f8 c9 f10) := fun out' ho' => by
      subst ho'
      rw [spec_l31Fields_1_eq, wrap_upL (Nat.lt_of_lt_of_le hi hla), ih _ (by rw [List.length_append]; omega), drop_at hi, List.flatMap_cons, List.append_assoc]
    have hin := d_spec_l20Field (s := x0) hlb (fun e he => (qb e he).is)
    have hx0 : x0.size ≤ 1048576 := by have := hxi.nm; rw [he] at this; exact this
    have hx2 : x2.length ≤ 1048576 := by have := hxi.args; rw [he] at this; exact this
    rw [spec_l31Fields_0_eq]
    simp -implicitDefEqProofs only [Int.ofNat_lt, hi, decide_true, branch_true, Int.natCast_nonneg, Bool.and_true, Int.toNat_natCast, guarded_true, sized_all (fun e he => (qa e he).is.len), getD_lt hi]
    rw [he]
    simp -implicitDefEqProofs only [bindE_eq, atK_zero, atK_succ, strK_str, slK_sl, hin, Option.bind_some, svLeafK_leaf, intK_int]
    by_cases hk : idxOf x0 0 b < 0
    · simp -implicitDefEqProofs only [hk, decide_true, branch_true, roomL (show out.length + 1 ≤ 3400000000000 by omega), Bool.and_true, guarded_true]
      exact next _ (by rw [he]; simp -implicitDefEqProofs only [fldA, strAt, List.getElem?_cons_zero, hk, if_true, chg])
    · obtain ⟨j, hj, hjb⟩ := idx_get hk
      have hyj := qb _ (List.getElem_mem hjb)
      obtain ⟨y0, y1, y2, y3, y4, y5, hf, g0, g1, g2, r2, g3, g4, g5, r5⟩ := hyj.is.ex
      have hy2 : y2.length ≤ 1048576 := by have := hyj.args; rw [hf] at this; exact this
      have hjn : ¬ ((j : Int) < 0) := by omega
      have pa : fldA nm b a[i] = tyCh nm [.str x0, .str x1, .sl fP x2, .str x3, .str x4, .sl fP x5] [.str y0, .str y1, .sl fP y2, .str y3, .str y4, .sl fP y5] ++ inCh (nm ++ dot ++ x0) x2 y2 := by
        rw [he]
        simp -implicitDefEqProofs only [fldA, strAt, slAt, List.getElem?_cons_zero, List.getElem?_cons_succ, hj, hjn, if_false, Int.toNat_natCast, getD_lt hjb, hf]
      have tail : ∀ out' : List El, out' = out ++ tyCh nm [.str x0, .str x1, .sl fP x2, .str x3, .str x4, .sl fP x5] [.str y0, .str y1, .sl fP y2, .str y3, .str y4, .sl fP y5] →
          spec_l31Fields_A Dn (spec_l31Fields_2 out' i j i0 b1 s2 nm e4 a e6 e7 e8 b9 e10 j0 c1 t2 t3 f4 b f6 f7 f8 c9 f10 x0 x1 x2 x3 x4 x5) = spec_l31Fields_A Dn (spec_l31Fields_3 (out ++ (a.drop i).flatMap (fldA nm b)) 0 i0 b1 s2 nm e4 a e6 e7 e8 b9 e10 j0 c1 t2 t3 f4 b f6 f7 f8 c9 f10) := fun out' ho' => by
        have hch := d_spec_InChanges (o := nm ++ dot ++ x0) hx2 hy2 q2 r2
        have hcl := inCh_len (nm ++ dot ++ x0) x2 y2
        have htl := tyCh_len nm [.str x0, .str x1, .sl fP x2, .str x3, .str x4, .sl fP x5] [.str y0, .str y1, .sl fP y2, .str y3, .str y4, .sl fP y5]
        have hol : out'.length + (inCh (nm ++ dot ++ x0) x2 y2).length ≤ 3400000000000 := by rw [ho', List.length_append]; omega
        have z1 : decide (nm.size + (ByteArray.mk #[46]).size ≤ 140737488355328) = true := decide_eq_true (by show nm.size + 1 ≤ _; omega)
        have z2 : decide ((nm ++ ByteArray.mk #[46]).size + x0.size ≤ 140737488355328) = true := decide_eq_true (by rw [ByteArray.size_append]; show nm.size + 1 + _ ≤ _; omega)
        rw [spec_l31Fields_2_eq]
        simp -implicitDefEqProofs only [z1, z2, guarded_true, Int.ofNat_lt, hjb, decide_true, Int.natCast_nonneg, Bool.and_true, Int.toNat_natCast, sized_all (fun e he => (qb e he).is.len), getD_lt hjb]
        rw [hf]
        simp -implicitDefEqProofs only [atK_zero, atK_succ, slK_sl, hch, Option.bind_some, svOwnK_own, roomL hol, sized_all (fun e he => (chg_all (o := nm ++ dot ++ x0) (a := x2) (b := y2) e he).len), Bool.and_self, guarded_true]
        exact next _ (by rw [pa, ho', List.append_assoc])
      rw [hj]
      simp -implicitDefEqProofs only [hjn, decide_false, branch_false, Int.ofNat_lt, hjb, decide_true, Int.natCast_nonneg, Bool.and_true, Int.toNat_natCast, guarded_true, sized_all (fun e he => (qb e he).is.len), getD_lt hjb]
      rw [hf]
      simp -implicitDefEqProofs only [bindE_eq, atK_zero, atK_succ, strK_str, roomL (show out.length + 1 ≤ 3400000000000 by omega), guarded_true]
      rw [branch_ite]
      by_cases hne : (!(x3 == y3 && x4 == y4)) = true
      · rw [if_pos hne]
        have e1 : tyCh nm [.str x0, .str x1, .sl fP x2, .str x3, .str x4, .sl fP x5] [.str y0, .str y1, .sl fP y2, .str y3, .str y4, .sl fP y5] = [chg 5 nm x0] := if_pos hne
        exact tail _ (by rw [e1]; rfl)
      · rw [if_neg hne]
        have e1 : tyCh nm [.str x0, .str x1, .sl fP x2, .str x3, .str x4, .sl fP x5] [.str y0, .str y1, .sl fP y2, .str y3, .str y4, .sl fP y5] = [] := if_neg hne
        exact tail _ (by rw [e1, List.append_nil])
theorem spec_fields_B (ha : a.length ≤ 1048576) (hb : b.length ≤ 1048576) (qa : ∀ e ∈ a, FOk e) (qb : ∀ e ∈ b, FOk e) : ∀ i : Nat, i ≤ b.length → ∀ out : List El, out.length ≤ 3298535931904 + i →
    spec_l31Fields_A Dn (spec_l31Fields_3 out i i0 b1 s2 nm e4 a e6 e7 e8 b9 e10 j0 c1 t2 t3 f4 b f6 f7 f8 c9 f10) = some (.own (some T.impl_Change) (out ++ (b.drop i).flatMap (fldB nm a)), []) := by
  have hml : (1048576 : Nat) ≤ maxLen := by decide
  have hla : a.length ≤ maxLen := Nat.le_trans ha hml
  have hlb : b.length ≤ maxLen := Nat.le_trans hb hml
  refine upto_ind ?_ ?_
  · intro out ho; rw [spec_l31Fields_3_eq]; simp
  · intro i hi ih out ho
    obtain ⟨y0, y1, y2, y3, y4, y5, hf, g0, g1, g2, r2, g3, g4, g5, r5⟩ := (qb _ (List.getElem_mem hi)).is.ex
    have hin := d_spec_l20Field (s := y0) hla (fun e he => (qa e he).is)
    rw [spec_l31Fields_3_eq]
    simp -implicitDefEqProofs only [Int.ofNat_lt, hi, decide_true, branch_true, Int.natCast_nonneg, Bool.and_true, Int.toNat_natCast, guarded_true, sized_all (fun e he => (qb e he).is.len), getD_lt hi]
    rw [hf]
    simp -implicitDefEqProofs only [atK_zero, strK_str, hin, Option.bind_some, svLeafK_leaf, intK_int, roomL (show out.length + 1 ≤ 3400000000000 by omega), guarded_true, spec_l31Fields_4_eq, wrap_upL (Nat.lt_of_lt_of_le hi hlb)]
    rw [branch_ite, drop_at hi, List.flatMap_cons, hf]
    by_cases hk : idxOf y0 0 a < 0
    · rw [if_pos (decide_eq_true hk), ih _ (by rw [List.length_append]; simp; omega), List.append_assoc]
      simp -implicitDefEqProofs only [fldB, strAt, List.getElem?_cons_zero, hk, if_true, chg]
    · rw [if_neg (by simpa using hk), ih _ (by omega)]
      simp -implicitDefEqProofs only [fldB, strAt, List.getElem?_cons_zero, hk, if_false, List.nil_append]
theorem d_spec_l31Fields (hn : nm.size ≤ 1048576) (ha : a.length ≤ 1048576) (hb : b.length ≤ 1048576) (qa : ∀ e ∈ a, FOk e) (qb : ∀ e ∈ b, FOk e) :
    Dn F.spec_l31Fields [.agg [.int .i64 i0, .bool b1, .str s2, .str nm, .sl fP e4, .sl fP a, .sl fP e6, .sl fP e7, .sl fP e8, .bool b9, .sl fP e10], .agg [.int .i64 j0, .bool c1, .str t2, .str t3, .sl fP f4, .sl fP b, .sl fP f6, .sl fP f7, .sl fP f8, .bool c9, .sl fP f10]] [] = some (.own (some T.impl_Change) (fldCh nm a b), []) := by
  apply den_of
  rw [run_spec_l31Fields]
  have h1 := spec_fields_A (i0 := i0) (b1 := b1) (s2 := s2) (e4 := e4) (e6 := e6) (e7 := e7) (e8 := e8) (b9 := b9) (e10 := e10) (j0 := j0) (c1 := c1) (t2 := t2) (t3 := t3) (f4 := f4) (f6 := f6) (f7 := f7) (f8 := f8) (c9 := c9) (f10 := f10) hn ha hb qa qb 0 (Nat.zero_le _) [] (by simp)
  have hl := flatMap_lenM (f := fldA nm b) (l := a) fun x hx => fldA_len (nm := nm) (qa x hx) qb
  have h2 := spec_fields_B (i0 := i0) (b1 := b1) (s2 := s2) (nm := nm) (e4 := e4) (e6 := e6) (e7 := e7) (e8 := e8) (b9 := b9) (e10 := e10) (j0 := j0) (c1 := c1) (t2 := t2) (t3 := t3) (f4 := f4) (f6 := f6) (f7 := f7) (f8 := f8) (c9 := c9) (f10 := f10) ha hb qa qb 0 (Nat.zero_le _) (a.flatMap (fldA nm b)) (by omega)
  simp only [List.drop_zero, List.nil_append] at h1 h2
  exact h1.trans h2
theorem spec_values (ha : e7.length ≤ 1048576) (qa : ∀ e ∈ e7, IsEnumDef e) : ∀ i : Nat, i ≤ e7.length → ∀ out : List El, out.length ≤ i →
    spec_l31Values_A Dn (spec_l31Values_0 out i i0 b1 s2 nm e4 a e6 e7 e8 b9 e10) = some (.own (some T.string) (out ++ vals (e7.drop i)), []) := by
  have hml : (1048576 : Nat) ≤ maxLen := by decide
  refine upto_ind ?_ ?_
  · intro out ho; rw [spec_l31Values_0_eq]; simp [vals]
  · intro i hi ih out ho
    obtain ⟨x0, x1, x2, he, _⟩ := (qa _ (List.getElem_mem hi)).ex
    rw [spec_l31Values_0_eq]
    simp -implicitDefEqProofs only [Int.ofNat_lt, hi, decide_true, branch_true, Int.natCast_nonneg, Bool.and_true, Int.toNat_natCast, guarded_true, sized_all (fun e he => (qa e he).len), getD_lt hi]
    rw [he]
    simp -implicitDefEqProofs only [atK_zero, strK_str, (room16 (show out.length ≤ 4194304 by omega)).1, (room16 (show out.length ≤ 4194304 by omega)).2, guarded_true, wrap_upL (Nat.lt_of_lt_of_le hi (Nat.le_trans ha hml))]
    rw [ih _ (by rw [List.length_append]; simp; omega), drop_at hi, he, List.append_assoc]
    rfl
theorem d_spec_l31Values (ha : e7.length ≤ 1048576) (qa : ∀ e ∈ e7, IsEnumDef e) : Dn F.spec_l31Values [.agg [.int .i64 i0, .bool b1, .str s2, .str nm, .sl fP e4, .sl fP a, .sl fP e6, .sl fP e7, .sl fP e8, .bool b9, .sl fP e10]] [] = some (.own (some T.string) (vals e7), []) := by
  apply den_of
  rw [run_spec_l31Values]
  exact spec_values ha qa 0 (Nat.zero_le _) [] (by simp)
end
end Go.Vs
end
section
open Go Go.Vs Go.Proofs
set_option linter.unusedVariables false
set_option linter.unusedSimpArgs false
namespace Go.Vs
def rep (c : Int) (o : ByteArray) (q : Bool) : List El := if q = true then [chg c o nul] else []
noncomputable def tailCh (o nm : ByteArray) (k : Int) (r r' : Bool) (e4 e5 e6 e7 f4 f5 f6 f7 : List El) : List El :=
  if (k == 2 || k == 3) = true then nameCh o e4 f4 12 24 ++ fldCh nm e5 f5
  else if (k == 4) = true then nameCh o e4 f4 11 23
  else if (k == 5) = true then nameCh o (vals e7) (vals f7) 10 22
  else if (k == 6) = true then inCh o e6 f6
  else if (k == 7) = true then nameCh o e4 f4 14 26 ++ (rep 15 o (r && !r') ++ (rep 27 o (!r && r') ++ inCh o e6 f6))
  else []
def dirNm (k : Int) (nm : ByteArray) : ByteArray := if (k == 7) = true then ByteArray.mk #[64] ++ nm else nm
noncomputable def defCh (x y : El) : List El :=
  if (intAt x 0 != intAt y 0) = true then [chg 3 (strAt x 3) nul] else
    rep 28 (dirNm (intAt x 0) (strAt x 3)) (!((strAt x 2).toList == (strAt y 2).toList)) ++
      tailCh (dirNm (intAt x 0) (strAt x 3)) (strAt x 3) (intAt x 0) (boolAt x 9) (boolAt y 9) (slAt x 4) (slAt x 5) (slAt x 6) (slAt x 7) (slAt y 4) (slAt y 5) (slAt y 6) (slAt y 7)
/-- What of a definition matters here. -/
structure DOk (nm : ByteArray) (e4 e5 e6 e7 : List El) : Prop where
  nm : nm.size ≤ 1048576
  l4 : e4.length ≤ 1048576
  q4 : ∀ e ∈ e4, IsStr e
  l5 : e5.length ≤ 1048576
  q5 : ∀ e ∈ e5, FOk e
  l6 : e6.length ≤ 1048576
  q6 : ∀ e ∈ e6, IsInDef e
  l7 : e7.length ≤ 1048576
  q7 : ∀ e ∈ e7, IsEnumDef e
theorem vals_len (l : List El) : (vals l).length = l.length := List.length_map _
theorem vals_all {l : List El} (h : ∀ e ∈ l, IsEnumDef e) : ∀ e ∈ vals l, IsStr e := by
  intro e he
  obtain ⟨x, hx, rfl⟩ := List.mem_map.1 he
  obtain ⟨x0, x1, x2, rfl, h0, _⟩ := (h x hx).ex
  exact ⟨x0, rfl, h0⟩
theorem FOk.of {e : El} (h : IsFieldDef e) (hb : bdL 1048576 e) : FOk e := by
  refine ⟨h, ?_, ?_⟩ <;> (cases h; simp only [bdL, bdF] at hb)
  · exact hb.1
  · exact hb.2.2.1.1
theorem rep_len (c : Int) (o : ByteArray) (q : Bool) : (rep c o q).length ≤ 1 := by unfold rep; split <;> simp
theorem rep_all {c : Int} {o : ByteArray} {q : Bool} : ∀ e ∈ rep c o q, IsChange e := by
  intro e he
  unfold rep at he
  split at he
  · rw [List.mem_singleton.1 he]; exact .mk _ _ _
  · simp at he
theorem tailCh_all {o nm : ByteArray} {k : Int} {r r' : Bool} {e4 e5 e6 e7 f4 f5 f6 f7 : List El} : ∀ e ∈ tailCh o nm k r r' e4 e5 e6 e7 f4 f5 f6 f7, IsChange e := by
  intro e he
  unfold tailCh at he
  split at he
  · rcases List.mem_append.1 he with he | he
    · exact nameCh_all e he
    · exact fldCh_all e he
  · split at he
    · exact nameCh_all e he
    · split at he
      · exact nameCh_all e he
      · split at he
        · exact chg_all e he
        · split at he
          · rcases List.mem_append.1 he with he | he
            · exact nameCh_all e he
            · rcases List.mem_append.1 he with he | he
              · exact rep_all e he
              · rcases List.mem_append.1 he with he | he
                · exact rep_all e he
                · exact chg_all e he
          · simp at he
theorem defCh_all {x y : El} : ∀ e ∈ defCh x y, IsChange e := by
  intro e he
  unfold defCh at he
  split at he
  · rw [List.mem_singleton.1 he]; exact .mk _ _ _
  · rcases List.mem_append.1 he with he | he
    · exact rep_all e he
    · exact tailCh_all e he
section
variable {k j0 : Int} {b1 b9 c1 c9 : Bool} {o s2 nm t2 t3 : ByteArray} {e4 e5 e6 e7 e8 e10 f4 f5 f6 f7 f8 f10 : List El}
theorem spec_tail7 (hx : DOk nm e4 e5 e6 e7) (hy : DOk t3 f4 f5 f6 f7) {out : List El} (ho : out.length ≤ 4000000) :
    spec_DefChanges_A Dn (spec_DefChanges_7 out o k b1 s2 nm e4 e5 e6 e7 e8 b9 e10 j0 c1 t2 t3 f4 f5 f6 f7 f8 c9 f10) = some (.own (some T.impl_Change) (out ++ inCh o e6 f6), []) := by
  have hcl := inCh_len o e6 f6
  have l6 := hx.l6
  have m6 := hy.l6
  rw [spec_DefChanges_7_eq]
  simp -implicitDefEqProofs only [d_spec_InChanges hx.l6 hy.l6 hx.q6 hy.q6, Option.bind_some, svOwnK_own, roomL (show out.length + (inCh o e6 f6).length ≤ 3400000000000 by omega), sized_all (fun e he => (chg_all (o := o) (a := e6) (b := f6) e he).len), Bool.and_self, guarded_true, spec_DefChanges_3_eq]
theorem spec_tail6 (hx : DOk nm e4 e5 e6 e7) (hy : DOk t3 f4 f5 f6 f7) (p : Bool) {out : List El} (ho : out.length ≤ 3500000) : spec_DefChanges_A Dn (spec_DefChanges_6 out o p k b1 s2 nm e4 e5 e6 e7 e8 b9 e10 j0 c1 t2 t3 f4 f5 f6 f7 f8 c9 f10) = some (.own (some T.impl_Change) (out ++ (rep 27 o p ++ inCh o e6 f6)), []) := by
  rw [spec_DefChanges_6_eq]
  cases p
  · simp -implicitDefEqProofs only [branch_false]
    rw [spec_tail7 hx hy (by omega)]; rfl
  · simp -implicitDefEqProofs only [branch_true, roomL (show out.length + 1 ≤ 3400000000000 by omega), Bool.and_true, guarded_true]
    rw [spec_tail7 hx hy (by rw [List.length_append]; simp; omega), List.append_assoc]; rfl
theorem spec_tail5 (hx : DOk nm e4 e5 e6 e7) (hy : DOk t3 f4 f5 f6 f7) {out : List El} (ho : out.length ≤ 3500000) : spec_DefChanges_A Dn (spec_DefChanges_5 out o k b1 s2 nm e4 e5 e6 e7 e8 b9 e10 j0 c1 t2 t3 f4 f5 f6 f7 f8 c9 f10) = some (.own (some T.impl_Change) (out ++ (rep 27 o (!b9 && c9) ++ inCh o e6 f6)), []) := by
  rw [spec_DefChanges_5_eq, spec_tail6 hx hy c9 ho, spec_tail6 hx hy false ho]
  cases b9 <;> rfl
theorem spec_tail4 (hx : DOk nm e4 e5 e6 e7) (hy : DOk t3 f4 f5 f6 f7) (q : Bool) {out : List El} (ho : out.length ≤ 3000000) :
    spec_DefChanges_A Dn (spec_DefChanges_4 out o q k b1 s2 nm e4 e5 e6 e7 e8 b9 e10 j0 c1 t2 t3 f4 f5 f6 f7 f8 c9 f10) = some (.own (some T.impl_Change) (out ++ (rep 15 o q ++ (rep 27 o (!b9 && c9) ++ inCh o e6 f6))), []) := by
  rw [spec_DefChanges_4_eq]
  cases q
  · simp -implicitDefEqProofs only [branch_false]
    rw [spec_tail5 hx hy (by omega)]; rfl
  · simp -implicitDefEqProofs only [branch_true, roomL (show out.length + 1 ≤ 3400000000000 by omega), Bool.and_true, guarded_true]
    rw [spec_tail5 hx hy (by rw [List.length_append]; simp; omega), List.append_assoc]; rfl
theorem spec_tail1 (hx : DOk nm e4 e5 e6 e7) (hy : DOk t3 f4 f5 f6 f7) {out : List El} (ho : out.length ≤ 1) :
    spec_DefChanges_A Dn (spec_DefChanges_1 out o k b1 s2 nm e4 e5 e6 e7 e8 b9 e10 j0 c1 t2 t3 f4 f5 f6 f7 f8 c9 f10) = some (.own (some T.impl_Change) (out ++ tailCh o nm k b9 c9 e4 e5 e6 e7 f4 f5 f6 f7), []) := by
  have two : spec_DefChanges_A Dn (spec_DefChanges_1 out o k b1 s2 nm e4 e5 e6 e7 e8 b9 e10 j0 c1 t2 t3 f4 f5 f6 f7 f8 c9 f10) = spec_DefChanges_A Dn (spec_DefChanges_2 out o k (k == 2 || k == 3) k b1 s2 nm e4 e5 e6 e7 e8 b9 e10 j0 c1 t2 t3 f4 f5 f6 f7 f8 c9 f10) := by
    rw [spec_DefChanges_1_eq, branch_ite]
    cases h : k == 2 <;> simp -implicitDefEqProofs only [if_true, Bool.false_eq_true, if_false, Bool.true_or, Bool.false_or]
  have x4 := hx.l4; have x5 := hx.l5; have x6 := hx.l6; have x7 := hx.l7
  have y4 := hy.l4; have y5 := hy.l5; have y6 := hy.l6; have y7 := hy.l7
  have nl := fun g f => nameCh_len o e4 f4 g f
  have vl := nameCh_len o (vals e7) (vals f7) 10 22
  rw [vals_len, vals_len] at vl
  have fl := fldCh_len (nm := nm) hx.l5 hy.l5 hx.q5 hy.q5
  have il := inCh_len o e6 f6
  have nr : ∀ g f, decide ((out.length + (nameCh o e4 f4 g f).length) * 40 ≤ maxBytes) = true := fun g f => roomL (by have := nl g f; omega)
  have ns : ∀ g f, sized 3 (nameCh o e4 f4 g f) = true := fun g f => sized_all fun e he => (nameCh_all e he).len
  have vn := d_spec_NameChanges (o := o) (gone := 10) (fresh := 22) (a := vals e7) (b := vals f7) (by rw [vals_len]; exact x7) (by rw [vals_len]; exact y7) (vals_all hx.q7) (vals_all hy.q7)
  rw [two, spec_DefChanges_2_eq, branch_ite]
  unfold tailCh
  by_cases h23 : (k == 2 || k == 3) = true
  · rw [if_pos h23, if_pos h23]
    have fr : decide (((out ++ nameCh o e4 f4 12 24).length + (fldCh nm e5 f5).length) * 40 ≤ maxBytes) = true := roomL (by have := nl 12 24; rw [List.length_append]; omega)
    simp -implicitDefEqProofs only [d_spec_NameChanges hx.l4 hy.l4 hx.q4 hy.q4, Option.bind_some, svOwnK_own, nr, ns, Bool.and_self, guarded_true, d_spec_l31Fields hx.nm hx.l5 hy.l5 hx.q5 hy.q5, fr, sized_all (fun e he => (fldCh_all (nm := nm) (a := e5) (b := f5) e he).len), spec_DefChanges_3_eq, List.append_assoc]
  · rw [if_neg h23, if_neg h23, branch_ite]
    by_cases h4 : (k == 4) = true
    · rw [if_pos h4, if_pos h4]
      simp -implicitDefEqProofs only [d_spec_NameChanges hx.l4 hy.l4 hx.q4 hy.q4, Option.bind_some, svOwnK_own, nr, ns, Bool.and_self, guarded_true, spec_DefChanges_3_eq]
    · rw [if_neg h4, if_neg h4, branch_ite]
      by_cases h5 : (k == 5) = true
      · rw [if_pos h5, if_pos h5]
        simp -implicitDefEqProofs only [d_spec_l31Values hx.l7 hx.q7, d_spec_l31Values hy.l7 hy.q7, vn, Option.bind_some, svOwnK_own, roomL (show out.length + (nameCh o (vals e7) (vals f7) 10 22).length ≤ 3400000000000 by omega), sized_all (fun e he => (nameCh_all (o := o) (a := vals e7) (b := vals f7) (g := 10) (f := 22) e he).len), Bool.and_self, guarded_true, spec_DefChanges_3_eq]
      · rw [if_neg h5, if_neg h5, branch_ite]
        by_cases h6 : (k == 6) = true
        · rw [if_pos h6, if_pos h6]
          simp -implicitDefEqProofs only [d_spec_InChanges hx.l6 hy.l6 hx.q6 hy.q6, Option.bind_some, svOwnK_own, roomL (show out.length + (inCh o e6 f6).length ≤ 3400000000000 by omega), sized_all (fun e he => (chg_all (o := o) (a := e6) (b := f6) e he).len), Bool.and_self, guarded_true, spec_DefChanges_3_eq]
        · rw [if_neg h6, if_neg h6, branch_ite]
          by_cases h7 : (k == 7) = true
          · rw [if_pos h7, if_pos h7]
            have ol : (out ++ nameCh o e4 f4 14 26).length ≤ 3000000 := by have := nl 14 26; rw [List.length_append]; omega
            simp -implicitDefEqProofs only [d_spec_NameChanges hx.l4 hy.l4 hx.q4 hy.q4, Option.bind_some, svOwnK_own, nr, ns, Bool.and_self, guarded_true, spec_tail4 hx hy _ ol]
            cases b9 <;> simp -implicitDefEqProofs only [beq_self_eq_true, show ((false : Bool) == true) = false from rfl, branch_true, branch_false, Bool.true_and, Bool.false_and, List.append_assoc]
          · rw [if_neg h7, if_neg h7, spec_DefChanges_3_eq, List.append_nil]
theorem defCh_mk : defCh [.int .i64 k, .bool b1, .str s2, .str nm, .sl fP e4, .sl fP e5, .sl fP e6, .sl fP e7, .sl fP e8, .bool b9, .sl fP e10] [.int .i64 j0, .bool c1, .str t2, .str t3, .sl fP f4, .sl fP f5, .sl fP f6, .sl fP f7, .sl fP f8, .bool c9, .sl fP f10] =
    if (k != j0) = true then [chg 3 nm nul] else rep 28 (dirNm k nm) (!(s2.toList == t2.toList)) ++ tailCh (dirNm k nm) nm k b9 c9 e4 e5 e6 e7 f4 f5 f6 f7 := rfl
theorem d_spec_DefChanges (hx : DOk nm e4 e5 e6 e7) (hy : DOk t3 f4 f5 f6 f7) :
    Dn F.spec_DefChanges [.agg [.int .i64 k, .bool b1, .str s2, .str nm, .sl fP e4, .sl fP e5, .sl fP e6, .sl fP e7, .sl fP e8, .bool b9, .sl fP e10], .agg [.int .i64 j0, .bool c1, .str t2, .str t3, .sl fP f4, .sl fP f5, .sl fP f6, .sl fP f7, .sl fP f8, .bool c9, .sl fP f10]] [] =
      some (.own (some T.impl_Change) (defCh [.int .i64 k, .bool b1, .str s2, .str nm, .sl fP e4, .sl fP e5, .sl fP e6, .sl fP e7, .sl fP e8, .bool b9, .sl fP e10] [.int .i64 j0, .bool c1, .str t2, .str t3, .sl fP f4, .sl fP f5, .sl fP f6, .sl fP f7, .sl fP f8, .bool c9, .sl fP f10]), []) := by
  have z : decide ((ByteArray.mk #[64]).size + nm.size ≤ 140737488355328) = true := decide_eq_true (by have := hx.nm; show 1 + _ ≤ _; omega)
  have s0 : ∀ o : ByteArray, spec_DefChanges_A Dn (spec_DefChanges_0 o k b1 s2 nm e4 e5 e6 e7 e8 b9 e10 j0 c1 t2 t3 f4 f5 f6 f7 f8 c9 f10) = some (.own (some T.impl_Change) (rep 28 o (!(s2.toList == t2.toList)) ++ tailCh o nm k b9 c9 e4 e5 e6 e7 f4 f5 f6 f7), []) := fun o => by
    rw [spec_DefChanges_0_eq]
    cases h : s2.toList == t2.toList
    · simp -implicitDefEqProofs only [Bool.not_false, branch_true]
      rw [spec_tail1 hx hy (by simp)]; rfl
    · simp -implicitDefEqProofs only [Bool.not_true, branch_false]
      rw [spec_tail1 hx hy (by simp)]; rfl
  apply den_of
  rw [run_spec_DefChanges, s0, s0, z, guarded_true, branch_ite, branch_ite]
  rw [defCh_mk]
  unfold dirNm
  by_cases h : (k != j0) = true
  · rw [if_pos h, if_pos h]; rfl
  · rw [if_neg h, if_neg h]
    by_cases h7 : (k == 7) = true
    · rw [if_pos h7, if_pos h7]
    · rw [if_neg h7, if_neg h7]
end
end Go.Vs
end
