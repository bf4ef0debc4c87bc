/- Reading the printed equations: what each step gives at known shapes, and rounds upward. -/
import Derived.Test.YtdnbagcbdagofaaVVsNm
namespace Go.Vs
variable {m : Bool} {β : Type}
@[simp] theorem guarded_true (x : Option β) : guarded true x = x := rfl
@[simp] theorem guarded_false (x : Option β) : guarded false x = none := rfl
@[simp] theorem branch_true (x y : Option β) : branch true x y = x := rfl
@[simp] theorem branch_false (x y : Option β) : branch false x y = y := rfl
theorem branch_ite (b : Bool) (x y : Option β) : branch b x y = if b = true then x else y := by cases b <;> rfl
@[simp] theorem onBool_bool (b : Bool) (k : Bool → Option β) : onBool (.leaf (.bool b) : SV m) k = k b := rfl
@[simp] theorem svLeafK_leaf (l : Leaf m) (k : Leaf m → Option β) : svLeafK (.leaf l) k = k l := rfl
@[simp] theorem svSlK_leaf (c : Fl m) (es : List (List (Leaf m))) (k : Fl m → List (List (Leaf m)) → Option β) : svSlK (.leaf (.sl c es)) k = k c es := rfl
@[simp] theorem svOwnK_own (e : TypeId) (es : List (List (Leaf m))) (k : List (List (Leaf m)) → Option β) : svOwnK e (.own (some e) es) k = k es := by simp [svOwnK]
@[simp] theorem svAggK_agg (cs : List (Leaf m)) (k : List (Leaf m) → Option β) : svAggK (.agg cs) k = k cs := rfl
@[simp] theorem svTupK_tup (vs : List (SV m)) (k : List (SV m) → Option β) : svTupK (.tup vs) k = k vs := rfl
@[simp] theorem svNilK_nil (k : Option β) : svNilK (.nilface : SV m) k = k := rfl
@[simp] theorem intK_int (k0 : IntKind) (n : Int) (k : Int → Option β) : intK k0 (.int k0 n : Leaf m) k = k n := by simp [intK]
@[simp] theorem boolK_bool (b : Bool) (k : Bool → Option β) : boolK (.bool b : Leaf m) k = k b := rfl
@[simp] theorem strK_str (s : ByteArray) (k : ByteArray → Option β) : strK (.str s : Leaf m) k = k s := rfl
@[simp] theorem slK_sl (c : Fl m) (es : List (List (Leaf m))) (k : Fl m → List (List (Leaf m)) → Option β) : slK (.sl c es) k = k c es := rfl
@[simp] theorem atK_zero (l : Leaf m) (e : List (Leaf m)) (k : Leaf m → Option β) : atK (l :: e) 0 k = k l := rfl
@[simp] theorem atK_succ (l : Leaf m) (e : List (Leaf m)) (n : Nat) (k : Leaf m → Option β) : atK (l :: e) (n + 1) k = atK e n k := rfl
@[simp] theorem bindE_eq (e : List (Leaf m)) (k : List (Leaf m) → Option β) : bindE e k = k e := rfl
@[simp] theorem headK_cons (v : SV m) (r : List (SV m)) (k : SV m → List (SV m) → Option β) : headK (v :: r) k = k v r := rfl
@[simp] theorem lastK_nil (k : Option β) : lastK ([] : List (SV m)) k = k := rfl
@[simp] theorem headB_cons (v : List (SV m)) (r : List (List (SV m))) (k : List (SV m) → List (List (SV m)) → Option β) : headB (v :: r) k = k v r := rfl
@[simp] theorem lastB_nil (k : Option β) : lastB ([] : List (List (SV m))) k = k := rfl
@[simp] theorem atSV_zero (l : SV m) (e : List (SV m)) (k : SV m → Option β) : atSV (l :: e) 0 k = k l := rfl
@[simp] theorem atSV_succ (l : SV m) (e : List (SV m)) (n : Nat) (k : SV m → Option β) : atSV (l :: e) (n + 1) k = atSV e n k := rfl
/-- Elements printed by one rule all have its length. -/
theorem sized_map {α : Type} {n : Nat} {f : α → List (Leaf m)} (h : ∀ a, (f a).length = n) (l : List α) : sized n (l.map f) = true := by simp [sized, h]
theorem getD_map {α : Type} {f : α → List (Leaf m)} {l : List α} {i : Nat} (h : i < l.length) : (l.map f).getD i [] = f l[i] := by simp [List.getD, h]
@[simp] theorem fl_false (a b : Fl false) : (a = b) = True := eq_true (by cases a; cases b; rfl)
theorem wrap64 {z : Int} (h1 : -9223372036854775808 ≤ z) (h2 : z ≤ 9223372036854775807) : IntKind.i64.wrap z = z := by
  have e : IntKind.i64.wrap z = if z % 18446744073709551616 ≥ 9223372036854775808 then z % 18446744073709551616 - 18446744073709551616 else z % 18446744073709551616 := by
    simp [IntKind.wrap, IntKind.signed, IntKind.bits]
  rw [e]
  split <;> omega
theorem wrap_up {i : Nat} (h : i < 4611686018427387904) : IntKind.i64.wrap ((i : Int) + 1) = ((i + 1 : Nat) : Int) := by
  rw [wrap64 (by omega) (by omega)]; rfl
/-- From the end of a count back to any place of it. -/
theorem upto_ind {n : Nat} {Q : Nat → Prop} (hn : Q n) (hs : ∀ i, i < n → Q (i + 1) → Q i) : ∀ i, i ≤ n → Q i := by
  intro i hi
  obtain ⟨k, rfl⟩ : ∃ k, n = i + k := ⟨n - i, by omega⟩
  induction k generalizing i with
  | zero => exact hn
  | succ k ih => exact hs i (by omega) (ih (i + 1) (by rw [show i + 1 + k = i + (k + 1) by omega]; exact hn) (by intro j hj; exact hs j (by omega)) (by omega))
/-- A row of which the first i elements have been written. -/
def rowAt (l : List (List (Leaf m))) (i : Nat) (z : List (SV m)) : List (SV m) := (l.take i).flatten.map SV.leaf ++ z
theorem flatten_len {α : Type} {z : Nat} : ∀ {l : List (List α)}, (∀ e ∈ l, e.length = z) → l.flatten.length = l.length * z
  | [], _ => by simp
  | e :: l, h => by
    have h1 := h e (by simp)
    have h2 := flatten_len (l := l) (fun e he => h e (by simp [he]))
    rw [List.flatten_cons, List.length_append, h1, h2, List.length_cons, Nat.add_mul]; omega
theorem rowAt_len {l : List (List (Leaf m))} {k i : Nat} {z : List (SV m)} (h : ∀ e ∈ l, e.length = k) (hi : i ≤ l.length) : (rowAt l i z).length = i * k + z.length := by
  unfold rowAt
  rw [List.length_append, List.length_map, flatten_len (z := k) (fun e he => h e (List.mem_of_mem_take he)), List.length_take, Nat.min_eq_left hi]
theorem putAt_row {l : List (List (Leaf m))} {k i : Nat} {z : List (SV m)} (h : ∀ e ∈ l, e.length = k) (hi : i < l.length) :
    putAt (rowAt l i z) (i * k) (l[i].map SV.leaf) = rowAt l (i + 1) (z.drop k) := by
  have hl : ((l.take i).flatten.map (SV.leaf (m := m))).length = i * k := by
    rw [List.length_map, flatten_len (z := k) (fun e he => h e (List.mem_of_mem_take he)), List.length_take, Nat.min_eq_left (Nat.le_of_lt hi)]
  have hk : (l[i].map (SV.leaf (m := m))).length = k := by rw [List.length_map]; exact h _ (List.getElem_mem hi)
  unfold putAt rowAt
  rw [hk, List.take_append_of_le_length (by omega), List.take_of_length_le (by omega), ← hl, List.drop_append, List.drop_of_length_le (by omega)]
  rw [List.take_succ_eq_append_getElem hi]
  simp only [List.flatten_append, List.map_append, List.flatten_cons, List.flatten_nil, List.append_nil, List.append_assoc, List.nil_append, Nat.add_sub_cancel_left]
theorem asLeaves_map : ∀ l : List (Leaf m), asLeaves (l.map SV.leaf) = some l
  | [] => rfl
  | a :: l => by simp [asLeaves, asLeaf, asLeaves_map l]
theorem chunks_flatten {α : Type} {z : Nat} : ∀ {l : List (List α)}, (∀ e ∈ l, e.length = z) → chunks z l.length l.flatten = l
  | [], _ => rfl
  | e :: l, h => by
    have h1 := h e (by simp)
    have h2 := chunks_flatten (l := l) (fun e he => h e (by simp [he]))
    simp only [List.length_cons, chunks, List.flatten_cons, ← h1, List.take_left', List.drop_left']
    rw [h1, h2]
theorem row_full {l : List (List (Leaf m))} {k : Nat} {z : List (SV m)} (h : ∀ e ∈ l, e.length = k) : asLeaves ((rowAt l l.length z).take (l.length * k)) = some l.flatten := by
  unfold rowAt
  have hl : (l.flatten.map (SV.leaf (m := m))).length = l.length * k := by rw [List.length_map, flatten_len h]
  rw [List.take_length, List.take_append_of_le_length (by omega), List.take_of_length_le (by omega)]
  exact asLeaves_map _
end Go.Vs
