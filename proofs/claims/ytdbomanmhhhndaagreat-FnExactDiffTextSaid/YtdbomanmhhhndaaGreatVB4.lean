/- What the program's functions compute, read off their text by the shadow runner (VsCmb, VsNames, VsStruct, VsLst, VsRaw, VsEr, VsTold, VsClone, VsInPlace, VsSort, VNm, VHs, VSt); no condition. -/
import Derived.Laws.Strings
import Derived.Sort.Walk0
import Derived.Lib.LazyBuf
import Derived.Sort.Grow
import Derived.Sort.EncStr
import Derived.Test.YtdbomanmhhhndaaGreatRows
import Derived.KernelRfl
import Derived.Test.YtdbomanmhhhndaaGreatVB3
section
namespace Go.Vs
variable {m : Bool} {β : Type}
abbrev El := List (aA false)
def slAt (e : El) (p : Nat) : List El := match e[p]? with | some (.sl _ es) => es | _ => []
def intAt (e : El) (p : Nat) : Int := match e[p]? with | some (.int _ n) => n | _ => 0
def uQ (e : El) (p : Nat) : Bool := match e[p]? with | some (.bool b) => b | _ => false
def aY (e : El) (p : Nat) : ByteArray := match e[p]? with | some (.str s) => s | _ => ⟨#[]⟩
theorem bT (b : Bool) : (b == true) = b := by cases b <;> rfl
theorem bF (b : Bool) : (b == false) = !b := by cases b <;> rfl
theorem xH (b : Bool) (x y : Option β) : aD (!b) x y = aD b y x := by cases b <;> rfl
theorem aHV (b : Bool) (x : Option β) : aD b x x = x := by cases b <;> rfl
def xO (v : SV m) (k : Bool → Option β) : Option β := aV v fun l => cN l k
def aKj (v : SV m) (k : Int → Option β) : Option β := aV v fun l => dU .i64 l k
def aQ5 (v : SV m) (k : ByteArray → Option β) : Option β := aV v fun l => bU l k
def vSl (v : SV m) (k : List (List (aA m)) → Option β) : Option β := nH v fun _ es => k es
abbrev Ret (m : Bool) := Option (SV m × List (List (SV m)))
abbrev LE := List El
abbrev PS := List Nat × St false
def qP (r : Ret m) (k : Bool → Option β) : Option β := r.bind fun r => xO r.1 k
def aEv (r : Ret m) (k : Int → Option β) : Option β := r.bind fun r => aKj r.1 k
def aC0 (r : Ret m) (k : ByteArray → Option β) : Option β := r.bind fun r => aQ5 r.1 k
def rSl (r : Ret m) (k : List (List (aA m)) → Option β) : Option β := r.bind fun r => vSl r.1 k
def uR (t : TypeId) (r : Ret m) (k : List (List (aA m)) → Option β) : Option β := r.bind fun r => gS t r.1 k
def aEV (r : Ret m) (k : Bool → Option β) : Option β := r.bind fun r => mL r.2 (xO r.1 k)
def aON (r : Ret m) (k : Int → Option β) : Option β := r.bind fun r => mL r.2 (aKj r.1 k)
def aOq (r : Ret m) (k : ByteArray → Bool → Option β) : Option β := r.bind fun r => pP r.2 fun d r1 => eX d fun d r2 => aQ5 d fun s => iA r2 (mL r1 (xO r.1 fun b => k s b))
def aP1 (r : Ret m) (k : ByteArray → Int → Option β) : Option β := r.bind fun r => pP r.2 fun d r1 => eX d fun d r2 => aQ5 d fun s => iA r2 (mL r1 (aKj r.1 fun b => k s b))
def lZ (t : TypeId) (r : Ret m) (k : List (List (aA m)) → Option β) : Option β := r.bind fun r => pP r.2 fun d r1 => eX d fun d r2 => gS t d fun es => iA r2 (mL r1 (jI r.1 fun vs => iA vs (k es)))
def aGp (e : List (aA m)) (p : Nat) (k : Bool → Option β) : Option β := atK e p fun l => cN l k
def aBF (e : List (aA m)) (p : Nat) (k : Int → Option β) : Option β := atK e p fun l => dU .i64 l k
def fH (e : List (aA m)) (p : Nat) (k : ByteArray → Option β) : Option β := atK e p fun l => bU l k
def aSl (e : List (aA m)) (p : Nat) (k : List (List (aA m)) → Option β) : Option β := atK e p fun l => slK l fun _ es => k es
section
variable {b : Bool} {n : Int} {s : ByteArray} {es : List (List (aA m))} {c : Fl m} {bs : List (List (SV m))} {t : TypeId}
theorem tZ (k : Bool → Option β) : xO (.leaf (.bool b) : SV m) k = k b := rfl
theorem aIK (k : Int → Option β) : aKj (.leaf (.int .i64 n) : SV m) k = k n := rfl
theorem aRJ (k : List (List (aA m)) → Option β) : vSl (.leaf (.sl c es)) k = k es := rfl
theorem lG (k : Bool → Option β) : qP (some ((.leaf (.bool b) : SV m), bs)) k = k b := rfl
theorem pG (k : Int → Option β) : aEv (some ((.leaf (.int .i64 n) : SV m), bs)) k = k n := rfl
theorem tR (k : ByteArray → Option β) : aC0 (some ((.leaf (.str s) : SV m), bs)) k = k s := rfl
theorem aQb (k : List (List (aA m)) → Option β) : rSl (some ((.leaf (.sl c es)), bs)) k = k es := rfl
theorem jQ (k : List (List (aA m)) → Option β) : uR t (some ((.own (some t) es), bs)) k = k es := by show gS t (.own (some t) es) k = k es; simp
theorem aC7 (k : Bool → Option β) : aEV (some ((.leaf (.bool b) : SV m), [])) k = k b := rfl
theorem aMA (k : Int → Option β) : aON (some ((.leaf (.int .i64 n) : SV m), [])) k = k n := rfl
theorem aKE (k : ByteArray → Bool → Option β) : aOq (some ((.leaf (.bool b) : SV m), [[.leaf (.str s)]])) k = k s b := rfl
theorem aNx (k : ByteArray → Int → Option β) : aP1 (some ((.leaf (.int .i64 n) : SV m), [[.leaf (.str s)]])) k = k s n := rfl
theorem gA (k : List (List (aA m)) → Option β) : lZ t (some (.tup [], [[.own (some t) es]])) k = k es := by show gS t (.own (some t) es) _ = k es; simp
section
variable {r : List (aA m)}
theorem aNY (k : ByteArray → Option β) : fH (.str s :: r) 0 k = k s := rfl
end
theorem aSc {l : aA m} {r : List (aA m)} {p : Nat} : (∀ k : Bool → Option β, aGp (l :: r) (p + 1) k = aGp r p k) ∧ (∀ k : Int → Option β, aBF (l :: r) (p + 1) k = aBF r p k) ∧ (∀ k : ByteArray → Option β, fH (l :: r) (p + 1) k = fH r p k) ∧
    (∀ k : List (List (aA m)) → Option β, aSl (l :: r) (p + 1) k = aSl r p k) := ⟨fun _ => rfl, fun _ => rfl, fun _ => rfl, fun _ => rfl⟩
end
theorem rdR : (∀ (m : Bool) (β : Type) (b : Bool) (k : Bool → Option β), xO (.leaf (.bool b) : SV m) k = k b) ∧
    (∀ (m : Bool) (β : Type) (n : Int) (k : Int → Option β), aKj (.leaf (.int .i64 n) : SV m) k = k n) ∧
    (∀ (m : Bool) (β : Type) (s : ByteArray) (k : ByteArray → Option β), aQ5 (.leaf (.str s) : SV m) k = k s) ∧
    (∀ (m : Bool) (β : Type) (c : Fl m) (es : List (List (aA m))) (k : List (List (aA m)) → Option β), vSl (.leaf (.sl c es)) k = k es) ∧
    (∀ (m : Bool) (β : Type) (b : Bool) (bs : List (List (SV m))) (k : Bool → Option β), qP (some ((.leaf (.bool b) : SV m), bs)) k = k b) ∧
    (∀ (m : Bool) (β : Type) (n : Int) (bs : List (List (SV m))) (k : Int → Option β), aEv (some ((.leaf (.int .i64 n) : SV m), bs)) k = k n) ∧
    (∀ (m : Bool) (β : Type) (s : ByteArray) (bs : List (List (SV m))) (k : ByteArray → Option β), aC0 (some ((.leaf (.str s) : SV m), bs)) k = k s) ∧
    (∀ (m : Bool) (β : Type) (c : Fl m) (es : List (List (aA m))) (bs : List (List (SV m))) (k : List (List (aA m)) → Option β), rSl (some ((.leaf (.sl c es)), bs)) k = k es) ∧
    (∀ (m : Bool) (β : Type) (t : TypeId) (es : List (List (aA m))) (bs : List (List (SV m))) (k : List (List (aA m)) → Option β), uR t (some ((.own (some t) es), bs)) k = k es) ∧
    (∀ (m : Bool) (β : Type) (b : Bool) (k : Bool → Option β), aEV (some ((.leaf (.bool b) : SV m), [])) k = k b) ∧
    (∀ (m : Bool) (β : Type) (n : Int) (k : Int → Option β), aON (some ((.leaf (.int .i64 n) : SV m), [])) k = k n) ∧
    (∀ (m : Bool) (β : Type) (b : Bool) (s : ByteArray) (k : ByteArray → Bool → Option β), aOq (some ((.leaf (.bool b) : SV m), [[.leaf (.str s)]])) k = k s b) ∧
    (∀ (m : Bool) (β : Type) (n : Int) (s : ByteArray) (k : ByteArray → Int → Option β), aP1 (some ((.leaf (.int .i64 n) : SV m), [[.leaf (.str s)]])) k = k s n) ∧
    (∀ (m : Bool) (β : Type) (t : TypeId) (es : List (List (aA m))) (k : List (List (aA m)) → Option β), lZ t (some (.tup [], [[.own (some t) es]])) k = k es) ∧
    (∀ (m : Bool) (β : Type) (b : Bool) (r : List (aA m)) (k : Bool → Option β), aGp (.bool b :: r) 0 k = k b) ∧
    (∀ (m : Bool) (β : Type) (n : Int) (r : List (aA m)) (k : Int → Option β), aBF (.int .i64 n :: r) 0 k = k n) ∧
    (∀ (m : Bool) (β : Type) (s : ByteArray) (r : List (aA m)) (k : ByteArray → Option β), fH (.str s :: r) 0 k = k s) ∧
    (∀ (m : Bool) (β : Type) (c : Fl m) (es : List (List (aA m))) (r : List (aA m)) (k : List (List (aA m)) → Option β), aSl (.sl c es :: r) 0 k = k es) ∧
    (∀ (β : Type) (α : Type) (x : α) (f : α → Option β), (some x).bind f = f x) ∧
    (∀ (m : Bool) (β : Type) (vs : List (SV m)) (k : List (SV m) → Option β), jI (.tup vs) k = k vs) ∧
    (∀ (m : Bool) (β : Type) (v : SV m) (r : List (SV m)) (k : SV m → List (SV m) → Option β), eX (v :: r) k = k v r) ∧
    (∀ (m : Bool) (β : Type) (v : List (SV m)) (r : List (List (SV m))) (k : List (SV m) → List (List (SV m)) → Option β), pP (v :: r) k = k v r) ∧
    (∀ (m : Bool) (β : Type) (k : Option β), iA ([] : List (SV m)) k = k) ∧
    (∀ (m : Bool) (β : Type) (k : Option β), mL ([] : List (List (SV m))) k = k) ∧
    (∀ (m : Bool) (β : Type) (cs : List (aA m)) (k : List (aA m) → Option β), dY (.agg cs) k = k cs) ∧
    (∀ (m : Bool) (β : Type) (e : TypeId) (es : List (List (aA m))) (k : List (List (aA m)) → Option β), gS e (.own (some e) es) k = k es) ∧
    (∀ (β : Type) (x y : Option β), aD true x y = x) ∧
    (∀ (β : Type) (x y : Option β), aD false x y = y) ∧
    (∀ (β : Type) (x : Option β), aB true x = x) :=
  ⟨fun _ _ _ _ => rfl, fun _ _ _ _ => rfl, fun _ _ _ _ => rfl, fun _ _ _ _ _ => rfl, fun _ _ _ _ _ => rfl, fun _ _ _ _ _ => rfl, fun _ _ _ _ _ => rfl, fun _ _ _ _ _ _ => rfl, fun _ _ _ _ _ k => jQ k, fun _ _ _ _ => rfl, fun _ _ _ _ => rfl, fun _ _ _ _ _ => rfl, fun _ _ _ _ _ => rfl, fun _ _ _ _ k => gA k, fun _ _ _ _ _ => rfl, fun _ _ _ _ _ => rfl, fun _ _ _ _ _ => rfl, fun _ _ _ _ _ _ => rfl, fun _ _ _ _ => rfl, fun _ _ _ _ => rfl, fun _ _ _ _ _ => rfl, fun _ _ _ _ _ => rfl, fun _ _ _ => rfl, fun _ _ _ => rfl, fun _ _ _ _ => rfl, fun _ _ => gD, fun _ _ _ => rfl, fun _ _ _ => rfl, fun _ _ => rfl⟩
theorem inI : (∀ a b : Nat, ((a : Int) < (b : Int)) = (a < b)) ∧ (∀ n : Nat, (0 ≤ (n : Int)) = True) ∧ (∀ n : Nat, ((n : Int)).toNat = n) ∧ decide True = true ∧ (∀ b : Bool, (b && true) = b) ∧ (∀ b : Bool, (true && b) = b) ∧ (∀ (β : Type) (x y : Option β), aD true x y = x) ∧ (∀ (β : Type) (x : Option β), aB true x = x) :=
  ⟨fun _ _ => propext Int.ofNat_lt, fun _ => eq_true (Int.natCast_nonneg _), Int.toNat_natCast, by decide, Bool.and_true, Bool.true_and, fun _ _ _ => rfl, fun _ _ => rfl⟩
end Go.Vs
end
section
set_option linter.unusedVariables false
namespace Go.Vs
def key (e : El) : List UInt8 := (aY e 0).toList
theorem leT {a b c : List UInt8} (h : a ≤ b) (k : b ≤ c) : a ≤ c := List.le_trans h k
theorem leR (a : List UInt8) : a ≤ a := List.le_refl a
theorem leN {a b : List UInt8} (h : ¬ a ≤ b) : b ≤ a := (List.le_total a b).resolve_left h
theorem leA {a b : List UInt8} (h : a ≤ b) (k : b ≤ a) : a = b := List.le_antisymm h k
theorem ltI {a b : List UInt8} : ¬ a < b ↔ b ≤ a := List.not_lt
def qJ (l : List El) : Prop := l.Pairwise fun a b => key a ≤ key b
def rY (out : List El) (x : El) : List El := if (out.getLast?.map key) = some (key x) then out else out ++ [x]
theorem aFF {out : List El} {x : El} {s : List UInt8} : (∃ e ∈ rY out x, key e = s) ↔ (∃ e ∈ out, key e = s) ∨ key x = s := by
  unfold rY
  split
  · rename_i h
    rw [Option.map_eq_some_iff] at h
    obtain ⟨l, hl, hk⟩ := h
    constructor
    · exact .inl
    · rintro (h | h)
      · exact h
      · exact ⟨l, List.mem_of_getLast? hl, hk.trans h⟩
  · constructor
    · rintro ⟨e, he, hs⟩
      rcases List.mem_append.1 he with he | he
      · exact .inl ⟨e, he, hs⟩
      · rw [List.mem_singleton.1 he] at hs; exact .inr hs
    · rintro (⟨e, he, hs⟩ | h)
      · exact ⟨e, List.mem_append_left _ he, hs⟩
      · exact ⟨x, by simp, h⟩
theorem jA {out : List El} {x e : El} (h : e ∈ rY out x) : e ∈ out ∨ e = x := by
  unfold rY at h
  split at h
  · exact .inl h
  · rcases List.mem_append.1 h with h | h
    · exact .inl h
    · exact .inr (List.mem_singleton.1 h)
theorem aAm (out : List El) (x : El) : (rY out x).length ≤ out.length + 1 := by unfold rY; split <;> simp
theorem yI {out : List El} {x : El} (h : qJ out) (hx : ∀ o ∈ out, key o ≤ key x) : qJ (rY out x) := by
  unfold rY
  split
  · exact h
  · exact List.pairwise_append.2 ⟨h, by simp, fun a ha b hb => by rw [List.mem_singleton.1 hb]; exact hx a ha⟩
def fin (xs ys out : List El) : List El := match xs, ys with
  | [], [] => out
  | x :: xs, [] => fin xs [] (rY out x)
  | [], y :: ys => fin [] ys (rY out y)
  | x :: xs, y :: ys => if key x ≤ key y then fin xs (y :: ys) (rY out x) else fin (x :: xs) ys (rY out y)
termination_by xs.length + ys.length
structure aSd (xs ys out r : List El) : Prop where
  up : qJ r
  mem : ∀ s, (∃ e ∈ r, key e = s) ↔ (∃ e ∈ out, key e = s) ∨ (∃ e ∈ xs, key e = s) ∨ ∃ e ∈ ys, key e = s
  len : r.length ≤ out.length + xs.length + ys.length
  sub : ∀ e ∈ r, e ∈ out ∨ e ∈ xs ∨ e ∈ ys
theorem aLh : ∀ (n : Nat) (xs ys out : List El), xs.length + ys.length = n → qJ xs → qJ ys → qJ out → (∀ o ∈ out, ∀ x ∈ xs, key o ≤ key x) → (∀ o ∈ out, ∀ y ∈ ys, key o ≤ key y) → aSd xs ys out (fin xs ys out) := by
  intro n
  induction n using Nat.strongRecOn with
  | ind n ih =>
    intro xs ys out hn hx hy ho h1 h2
    match xs, ys with
    | [], [] => unfold fin; exact ⟨ho, fun s => by simp, by simp, fun e he => .inl he⟩
    | x :: xs, [] =>
      unfold fin
      have hx' := List.pairwise_cons.1 hx
      have j := ih (xs.length + 0) (by simp at hn; omega) xs [] (rY out x) rfl hx'.2 hy (yI ho fun o h => h1 o h x (by simp)) (fun o h z hz => by
        rcases jA h with h | rfl
        · exact h1 o h z (by simp [hz])
        · exact hx'.1 z hz) (fun o h z hz => by simp at hz)
      refine ⟨j.up, fun s => ?_, by have := j.len; have := aAm out x; simp at *; omega, fun e he => ?_⟩
      · rw [j.mem, aFF]; simp [or_assoc]
      · rcases j.sub e he with h | h | h
        · rcases jA h with h | rfl
          · exact .inl h
          · exact .inr (.inl (by simp))
        · exact .inr (.inl (by simp [h]))
        · simp at h
    | [], y :: ys =>
      unfold fin
      have hy' := List.pairwise_cons.1 hy
      have j := ih (0 + ys.length) (by simp at hn; omega) [] ys (rY out y) rfl hx hy'.2 (yI ho fun o h => h2 o h y (by simp)) (fun o h z hz => by simp at hz) (fun o h z hz => by
        rcases jA h with h | rfl
        · exact h2 o h z (by simp [hz])
        · exact hy'.1 z hz)
      refine ⟨j.up, fun s => ?_, by have := j.len; have := aAm out y; simp at *; omega, fun e he => ?_⟩
      · rw [j.mem, aFF]; simp [or_assoc]
      · rcases j.sub e he with h | h | h
        · rcases jA h with h | rfl
          · exact .inl h
          · exact .inr (.inr (by simp))
        · simp at h
        · exact .inr (.inr (by simp [h]))
    | x :: xs, y :: ys =>
      have hx' := List.pairwise_cons.1 hx
      have hy' := List.pairwise_cons.1 hy
      unfold fin
      by_cases hc : key x ≤ key y
      · rw [if_pos hc]
        have j := ih (xs.length + (y :: ys).length) (by simp at hn ⊢; omega) xs (y :: ys) (rY out x) rfl hx'.2 hy (yI ho fun o h => h1 o h x (by simp)) (fun o h z hz => by
          rcases jA h with h | rfl
          · exact h1 o h z (by simp [hz])
          · exact hx'.1 z hz) (fun o h z hz => by
          rcases jA h with h | rfl
          · exact h2 o h z hz
          · rcases List.mem_cons.1 hz with rfl | hz
            · exact hc
            · exact leT hc (hy'.1 z hz))
        refine ⟨j.up, fun s => ?_, by have := j.len; have := aAm out x; simp at *; omega, fun e he => ?_⟩
        · rw [j.mem, aFF]; simp [or_assoc]
        · rcases j.sub e he with h | h | h
          · rcases jA h with h | rfl
            · exact .inl h
            · exact .inr (.inl (by simp))
          · exact .inr (.inl (by simp [h]))
          · exact .inr (.inr h)
      · rw [if_neg hc]
        have hc' := leN hc
        have j := ih ((x :: xs).length + ys.length) (by simp at hn ⊢; omega) (x :: xs) ys (rY out y) rfl hx hy'.2 (yI ho fun o h => h2 o h y (by simp)) (fun o h z hz => by
          rcases jA h with h | rfl
          · exact h1 o h z hz
          · rcases List.mem_cons.1 hz with rfl | hz
            · exact hc'
            · exact leT hc' (hx'.1 z hz)) (fun o h z hz => by
          rcases jA h with h | rfl
          · exact h2 o h z (by simp [hz])
          · exact hy'.1 z hz)
        refine ⟨j.up, fun s => ?_, by have := j.len; have := aAm out y; simp at *; omega, fun e he => ?_⟩
        · rw [j.mem, aFF]
          simp only [List.mem_cons, exists_eq_or_imp]
          constructor
          · rintro ((h | h) | h | h) <;> simp [h]
          · rintro (h | (h | h) | h | h) <;> simp [h]
        · rcases j.sub e he with h | h | h
          · rcases jA h with h | rfl
            · exact .inl h
            · exact .inr (.inr (by simp))
          · exact .inr (.inl h)
          · exact .inr (.inr (by simp [h]))
theorem aRI {l : List El} (hr : qJ l) {s : List UInt8} {lo : Nat} (hlo : ∀ (j : Nat) (h : j < l.length), j < lo → key l[j] < s) (hhi : ∀ (j : Nat) (h : j < l.length), lo ≤ j → s ≤ key l[j]) :
    (∃ e ∈ l, key e = s) ↔ ∃ h : lo < l.length, key l[lo] = s := by
  constructor
  · rintro ⟨e, he, hs⟩
    obtain ⟨j, hj, rfl⟩ := List.getElem_of_mem he
    have hjl : lo ≤ j := by
      rcases Nat.lt_or_ge j lo with h | h
      · have := hlo j hj h
        rw [hs] at this
        exact absurd this (ltI.2 (leR s))
      · exact h
    have hlt : lo < l.length := Nat.lt_of_le_of_lt hjl hj
    refine ⟨hlt, leA ?_ (hhi lo hlt (Nat.le_refl _))⟩
    rw [← hs]
    rcases Nat.eq_or_lt_of_le hjl with h | h
    · subst h; exact leR _
    · exact (List.pairwise_iff_getElem.1 hr) lo j hlt hj h
  · rintro ⟨h, hs⟩; exact ⟨l[lo], List.getElem_mem h, hs⟩
theorem aK7 {l : List El} (hr : qJ l) {i j : Nat} (h : i ≤ j) (hj : j < l.length) : key l[i] ≤ key l[j] := by
  rcases Nat.eq_or_lt_of_le h with h | h
  · subst h; exact leR _
  · exact (List.pairwise_iff_getElem.1 hr) i j (by omega) hj h
end Go.Vs
end
section
namespace Go.Vs
variable {β : Type}
structure nL where
  mk ::
  (a0 a1 : ByteArray)
def nL.l (x : nL) : El := [.str x.a0, .str x.a1]
def nL.b (x : nL) : List (SV false) := [.leaf (.str x.a0), .leaf (.str x.a1)]
def nL.rd (e : El) (k : nL → Option β) : Option β := fH e 0 fun a0 => fH e 1 fun a1 => k ⟨a0, a1⟩
def nL.va (v : SV false) (k : nL → Option β) : Option β := dY v fun e => aB (e.length == 2) (nL.rd e k)
theorem nL.rd_l (x : nL) (k : nL → Option β) : nL.rd x.l k = k x := rfl
theorem nL.va_l (x : nL) (k : nL → Option β) : nL.va (.agg x.l) k = k x := rfl
def nL.of (e : El) : nL := ⟨aY e 0, aY e 1⟩
theorem nL.of_l (x : nL) : nL.of x.l = x := rfl
theorem nL.len (x : nL) : x.l.length = 2 := rfl
structure fN where
  mk ::
  (a0 : Int) (a1 : ByteArray) (a2 a3 : List El)
def fN.l (x : fN) : El := [.int .i64 x.a0, .str x.a1, .sl fP x.a2, .sl fP x.a3]
def fN.b (x : fN) : List (SV false) := [.leaf (.int .i64 x.a0), .leaf (.str x.a1), .leaf (.sl fP x.a2), .leaf (.sl fP x.a3)]
def fN.rd (e : El) (k : fN → Option β) : Option β := aBF e 0 fun a0 => fH e 1 fun a1 => aSl e 2 fun a2 => aSl e 3 fun a3 => k ⟨a0, a1, a2, a3⟩
def fN.va (v : SV false) (k : fN → Option β) : Option β := dY v fun e => aB (e.length == 4) (fN.rd e k)
theorem fN.rd_l (x : fN) (k : fN → Option β) : fN.rd x.l k = k x := rfl
theorem fN.va_l (x : fN) (k : fN → Option β) : fN.va (.agg x.l) k = k x := rfl
def fN.of (e : El) : fN := ⟨intAt e 0, aY e 1, slAt e 2, slAt e 3⟩
theorem fN.of_l (x : fN) : fN.of x.l = x := rfl
theorem fN.len (x : fN) : x.l.length = 4 := rfl
structure eY where
  mk ::
  (a0 : ByteArray) (a1 : Int) (a2 : ByteArray) (a3 a4 : List El)
def eY.l (x : eY) : El := [.str x.a0, .int .i64 x.a1, .str x.a2, .sl fP x.a3, .sl fP x.a4]
def eY.b (x : eY) : List (SV false) := [.leaf (.str x.a0), .leaf (.int .i64 x.a1), .leaf (.str x.a2), .leaf (.sl fP x.a3), .leaf (.sl fP x.a4)]
def eY.rd (e : El) (k : eY → Option β) : Option β := fH e 0 fun a0 => aBF e 1 fun a1 => fH e 2 fun a2 => aSl e 3 fun a3 => aSl e 4 fun a4 => k ⟨a0, a1, a2, a3, a4⟩
def eY.va (v : SV false) (k : eY → Option β) : Option β := dY v fun e => aB (e.length == 5) (eY.rd e k)
theorem eY.rd_l (x : eY) (k : eY → Option β) : eY.rd x.l k = k x := rfl
theorem eY.va_l (x : eY) (k : eY → Option β) : eY.va (.agg x.l) k = k x := rfl
def eY.of (e : El) : eY := ⟨aY e 0, intAt e 1, aY e 2, slAt e 3, slAt e 4⟩
theorem eY.of_l (x : eY) : eY.of x.l = x := rfl
theorem eY.len (x : eY) : x.l.length = 5 := rfl
structure rX where
  mk ::
  (a0 : ByteArray) (a1 : List El)
def rX.l (x : rX) : El := [.str x.a0, .sl fP x.a1]
def rX.b (x : rX) : List (SV false) := [.leaf (.str x.a0), .leaf (.sl fP x.a1)]
def rX.rd (e : El) (k : rX → Option β) : Option β := fH e 0 fun a0 => aSl e 1 fun a1 => k ⟨a0, a1⟩
def rX.va (v : SV false) (k : rX → Option β) : Option β := dY v fun e => aB (e.length == 2) (rX.rd e k)
theorem rX.rd_l (x : rX) (k : rX → Option β) : rX.rd x.l k = k x := rfl
theorem rX.va_l (x : rX) (k : rX → Option β) : rX.va (.agg x.l) k = k x := rfl
def rX.of (e : El) : rX := ⟨aY e 0, slAt e 1⟩
theorem rX.of_l (x : rX) : rX.of x.l = x := rfl
theorem rX.len (x : rX) : x.l.length = 2 := rfl
structure bR where
  mk ::
  (a0 a1 a2 a3 : ByteArray) (a4 : Bool) (a5 : Int) (a6 : ByteArray) (a7 a8 a9 : List El)
def bR.l (x : bR) : El := [.str x.a0, .str x.a1, .str x.a2, .str x.a3, .bool x.a4, .int .i64 x.a5, .str x.a6, .sl fP x.a7, .sl fP x.a8, .sl fP x.a9]
def bR.b (x : bR) : List (SV false) := [.leaf (.str x.a0), .leaf (.str x.a1), .leaf (.str x.a2), .leaf (.str x.a3), .leaf (.bool x.a4), .leaf (.int .i64 x.a5), .leaf (.str x.a6), .leaf (.sl fP x.a7), .leaf (.sl fP x.a8), .leaf (.sl fP x.a9)]
def bR.rd (e : El) (k : bR → Option β) : Option β := fH e 0 fun a0 => fH e 1 fun a1 => fH e 2 fun a2 => fH e 3 fun a3 => aGp e 4 fun a4 => aBF e 5 fun a5 => fH e 6 fun a6 => aSl e 7 fun a7 => aSl e 8 fun a8 => aSl e 9 fun a9 => k ⟨a0, a1, a2, a3, a4, a5, a6, a7, a8, a9⟩
def bR.va (v : SV false) (k : bR → Option β) : Option β := dY v fun e => aB (e.length == 10) (bR.rd e k)
theorem bR.rd_l (x : bR) (k : bR → Option β) : bR.rd x.l k = k x := rfl
theorem bR.va_l (x : bR) (k : bR → Option β) : bR.va (.agg x.l) k = k x := rfl
def bR.of (e : El) : bR := ⟨aY e 0, aY e 1, aY e 2, aY e 3, uQ e 4, intAt e 5, aY e 6, slAt e 7, slAt e 8, slAt e 9⟩
theorem bR.of_l (x : bR) : bR.of x.l = x := rfl
theorem bR.len (x : bR) : x.l.length = 10 := rfl
structure cO where
  mk ::
  (a0 a1 : ByteArray) (a2 : List El) (a3 a4 : ByteArray) (a5 : List El)
def cO.l (x : cO) : El := [.str x.a0, .str x.a1, .sl fP x.a2, .str x.a3, .str x.a4, .sl fP x.a5]
def cO.b (x : cO) : List (SV false) := [.leaf (.str x.a0), .leaf (.str x.a1), .leaf (.sl fP x.a2), .leaf (.str x.a3), .leaf (.str x.a4), .leaf (.sl fP x.a5)]
def cO.rd (e : El) (k : cO → Option β) : Option β := fH e 0 fun a0 => fH e 1 fun a1 => aSl e 2 fun a2 => fH e 3 fun a3 => fH e 4 fun a4 => aSl e 5 fun a5 => k ⟨a0, a1, a2, a3, a4, a5⟩
def cO.va (v : SV false) (k : cO → Option β) : Option β := dY v fun e => aB (e.length == 6) (cO.rd e k)
theorem cO.rd_l (x : cO) (k : cO → Option β) : cO.rd x.l k = k x := rfl
theorem cO.va_l (x : cO) (k : cO → Option β) : cO.va (.agg x.l) k = k x := rfl
def cO.of (e : El) : cO := ⟨aY e 0, aY e 1, slAt e 2, aY e 3, aY e 4, slAt e 5⟩
theorem cO.of_l (x : cO) : cO.of x.l = x := rfl
theorem cO.len (x : cO) : x.l.length = 6 := rfl
structure lY where
  mk ::
  (a0 a1 : ByteArray) (a2 : List El)
def lY.l (x : lY) : El := [.str x.a0, .str x.a1, .sl fP x.a2]
def lY.b (x : lY) : List (SV false) := [.leaf (.str x.a0), .leaf (.str x.a1), .leaf (.sl fP x.a2)]
def lY.rd (e : El) (k : lY → Option β) : Option β := fH e 0 fun a0 => fH e 1 fun a1 => aSl e 2 fun a2 => k ⟨a0, a1, a2⟩
def lY.va (v : SV false) (k : lY → Option β) : Option β := dY v fun e => aB (e.length == 3) (lY.rd e k)
theorem lY.rd_l (x : lY) (k : lY → Option β) : lY.rd x.l k = k x := rfl
theorem lY.va_l (x : lY) (k : lY → Option β) : lY.va (.agg x.l) k = k x := rfl
def lY.of (e : El) : lY := ⟨aY e 0, aY e 1, slAt e 2⟩
theorem lY.of_l (x : lY) : lY.of x.l = x := rfl
theorem lY.len (x : lY) : x.l.length = 3 := rfl
structure rB where
  mk ::
  (a0 : Int) (a1 : ByteArray)
def rB.l (x : rB) : El := [.int .i64 x.a0, .str x.a1]
def rB.b (x : rB) : List (SV false) := [.leaf (.int .i64 x.a0), .leaf (.str x.a1)]
def rB.rd (e : El) (k : rB → Option β) : Option β := aBF e 0 fun a0 => fH e 1 fun a1 => k ⟨a0, a1⟩
def rB.va (v : SV false) (k : rB → Option β) : Option β := dY v fun e => aB (e.length == 2) (rB.rd e k)
theorem rB.rd_l (x : rB) (k : rB → Option β) : rB.rd x.l k = k x := rfl
theorem rB.va_l (x : rB) (k : rB → Option β) : rB.va (.agg x.l) k = k x := rfl
def rB.of (e : El) : rB := ⟨intAt e 0, aY e 1⟩
theorem rB.of_l (x : rB) : rB.of x.l = x := rfl
theorem rB.len (x : rB) : x.l.length = 2 := rfl
structure aE where
  mk ::
  (a0 : Int) (a1 : Bool) (a2 a3 : ByteArray) (a4 a5 a6 a7 a8 : List El) (a9 : Bool) (a10 : List El)
def aE.l (x : aE) : El := [.int .i64 x.a0, .bool x.a1, .str x.a2, .str x.a3, .sl fP x.a4, .sl fP x.a5, .sl fP x.a6, .sl fP x.a7, .sl fP x.a8, .bool x.a9, .sl fP x.a10]
def aE.b (x : aE) : List (SV false) := [.leaf (.int .i64 x.a0), .leaf (.bool x.a1), .leaf (.str x.a2), .leaf (.str x.a3), .leaf (.sl fP x.a4), .leaf (.sl fP x.a5), .leaf (.sl fP x.a6), .leaf (.sl fP x.a7), .leaf (.sl fP x.a8), .leaf (.bool x.a9), .leaf (.sl fP x.a10)]
def aE.rd (e : El) (k : aE → Option β) : Option β := aBF e 0 fun a0 => aGp e 1 fun a1 => fH e 2 fun a2 => fH e 3 fun a3 => aSl e 4 fun a4 => aSl e 5 fun a5 => aSl e 6 fun a6 => aSl e 7 fun a7 => aSl e 8 fun a8 => aGp e 9 fun a9 => aSl e 10 fun a10 => k ⟨a0, a1, a2, a3, a4, a5, a6, a7, a8, a9, a10⟩
def aE.va (v : SV false) (k : aE → Option β) : Option β := dY v fun e => aB (e.length == 11) (aE.rd e k)
theorem aE.rd_l (x : aE) (k : aE → Option β) : aE.rd x.l k = k x := rfl
theorem aE.va_l (x : aE) (k : aE → Option β) : aE.va (.agg x.l) k = k x := rfl
def aE.of (e : El) : aE := ⟨intAt e 0, uQ e 1, aY e 2, aY e 3, slAt e 4, slAt e 5, slAt e 6, slAt e 7, slAt e 8, uQ e 9, slAt e 10⟩
theorem aE.of_l (x : aE) : aE.of x.l = x := rfl
theorem aE.len (x : aE) : x.l.length = 11 := rfl
structure dD where
  mk ::
  (a0 a1 a2 : List El)
def dD.l (x : dD) : El := [.sl fP x.a0, .sl fP x.a1, .sl fP x.a2]
def dD.b (x : dD) : List (SV false) := [.leaf (.sl fP x.a0), .leaf (.sl fP x.a1), .leaf (.sl fP x.a2)]
def dD.rd (e : El) (k : dD → Option β) : Option β := aSl e 0 fun a0 => aSl e 1 fun a1 => aSl e 2 fun a2 => k ⟨a0, a1, a2⟩
def dD.va (v : SV false) (k : dD → Option β) : Option β := dY v fun e => aB (e.length == 3) (dD.rd e k)
theorem dD.rd_l (x : dD) (k : dD → Option β) : dD.rd x.l k = k x := rfl
theorem dD.va_l (x : dD) (k : dD → Option β) : dD.va (.agg x.l) k = k x := rfl
def dD.of (e : El) : dD := ⟨slAt e 0, slAt e 1, slAt e 2⟩
theorem dD.of_l (x : dD) : dD.of x.l = x := rfl
theorem dD.len (x : dD) : x.l.length = 3 := rfl
structure eV where
  mk ::
  (a0 : Int) (a1 a2 : ByteArray)
def eV.l (x : eV) : El := [.int .i64 x.a0, .str x.a1, .str x.a2]
def eV.b (x : eV) : List (SV false) := [.leaf (.int .i64 x.a0), .leaf (.str x.a1), .leaf (.str x.a2)]
def eV.rd (e : El) (k : eV → Option β) : Option β := aBF e 0 fun a0 => fH e 1 fun a1 => fH e 2 fun a2 => k ⟨a0, a1, a2⟩
def eV.va (v : SV false) (k : eV → Option β) : Option β := dY v fun e => aB (e.length == 3) (eV.rd e k)
theorem eV.rd_l (x : eV) (k : eV → Option β) : eV.rd x.l k = k x := rfl
theorem eV.va_l (x : eV) (k : eV → Option β) : eV.va (.agg x.l) k = k x := rfl
def eV.of (e : El) : eV := ⟨intAt e 0, aY e 1, aY e 2⟩
theorem eV.of_l (x : eV) : eV.of x.l = x := rfl
theorem eV.len (x : eV) : x.l.length = 3 := rfl
theorem atP : (∀ (β : Type) (x : nL), (∀ k : ByteArray → Option β, fH x.l 0 k = k x.a0) ∧ (∀ k : ByteArray → Option β, fH x.l 1 k = k x.a1)) ∧ (∀ (β : Type) (x : fN), (∀ k : Int → Option β, aBF x.l 0 k = k x.a0) ∧ (∀ k : ByteArray → Option β, fH x.l 1 k = k x.a1) ∧ (∀ k : List El → Option β, aSl x.l 2 k = k x.a2) ∧ (∀ k : List El → Option β, aSl x.l 3 k = k x.a3)) ∧ (∀ (β : Type) (x : eY), (∀ k : ByteArray → Option β, fH x.l 0 k = k x.a0) ∧ (∀ k : Int → Option β, aBF x.l 1 k = k x.a1) ∧ (∀ k : ByteArray → Option β, fH x.l 2 k = k x.a2) ∧ (∀ k : List El → Option β, aSl x.l 3 k = k x.a3) ∧ (∀ k : List El → Option β, aSl x.l 4 k = k x.a4)) ∧ (∀ (β : Type) (x : rX), (∀ k : ByteArray → Option β, fH x.l 0 k = k x.a0) ∧ (∀ k : List El → Option β, aSl x.l 1 k = k x.a1)) ∧ (∀ (β : Type) (x : bR), (∀ k : ByteArray → Option β, fH x.l 0 k = k x.a0) ∧ (∀ k : ByteArray → Option β, fH x.l 1 k = k x.a1) ∧ (∀ k : ByteArray → Option β, fH x.l 2 k = k x.a2) ∧ (∀ k : ByteArray → Option β, fH x.l 3 k = k x.a3) ∧ (∀ k : Bool → Option β, aGp x.l 4 k = k x.a4) ∧ (∀ k : Int → Option β, aBF x.l 5 k = k x.a5) ∧ (∀ k : ByteArray → Option β, fH x.l 6 k = k x.a6) ∧ (∀ k : List El → Option β, aSl x.l 7 k = k x.a7) ∧ (∀ k : List El → Option β, aSl x.l 8 k = k x.a8) ∧ (∀ k : List El → Option β, aSl x.l 9 k = k x.a9)) ∧ (∀ (β : Type) (x : cO), (∀ k : ByteArray → Option β, fH x.l 0 k = k x.a0) ∧ (∀ k : ByteArray → Option β, fH x.l 1 k = k x.a1) ∧ (∀ k : List El → Option β, aSl x.l 2 k = k x.a2) ∧ (∀ k : ByteArray → Option β, fH x.l 3 k = k x.a3) ∧ (∀ k : ByteArray → Option β, fH x.l 4 k = k x.a4) ∧ (∀ k : List El → Option β, aSl x.l 5 k = k x.a5)) ∧ (∀ (β : Type) (x : lY), (∀ k : ByteArray → Option β, fH x.l 0 k = k x.a0) ∧ (∀ k : ByteArray → Option β, fH x.l 1 k = k x.a1) ∧ (∀ k : List El → Option β, aSl x.l 2 k = k x.a2)) ∧ (∀ (β : Type) (x : rB), (∀ k : Int → Option β, aBF x.l 0 k = k x.a0) ∧ (∀ k : ByteArray → Option β, fH x.l 1 k = k x.a1)) ∧ (∀ (β : Type) (x : aE), (∀ k : Int → Option β, aBF x.l 0 k = k x.a0) ∧ (∀ k : Bool → Option β, aGp x.l 1 k = k x.a1) ∧ (∀ k : ByteArray → Option β, fH x.l 2 k = k x.a2) ∧ (∀ k : ByteArray → Option β, fH x.l 3 k = k x.a3) ∧ (∀ k : List El → Option β, aSl x.l 4 k = k x.a4) ∧ (∀ k : List El → Option β, aSl x.l 5 k = k x.a5) ∧ (∀ k : List El → Option β, aSl x.l 6 k = k x.a6) ∧ (∀ k : List El → Option β, aSl x.l 7 k = k x.a7) ∧ (∀ k : List El → Option β, aSl x.l 8 k = k x.a8) ∧ (∀ k : Bool → Option β, aGp x.l 9 k = k x.a9) ∧ (∀ k : List El → Option β, aSl x.l 10 k = k x.a10)) ∧ (∀ (β : Type) (x : dD), (∀ k : List El → Option β, aSl x.l 0 k = k x.a0) ∧ (∀ k : List El → Option β, aSl x.l 1 k = k x.a1) ∧ (∀ k : List El → Option β, aSl x.l 2 k = k x.a2)) ∧ (∀ (β : Type) (x : eV), (∀ k : Int → Option β, aBF x.l 0 k = k x.a0) ∧ (∀ k : ByteArray → Option β, fH x.l 1 k = k x.a1) ∧ (∀ k : ByteArray → Option β, fH x.l 2 k = k x.a2)) := ⟨fun _ _ => ⟨fun _ => rfl, fun _ => rfl⟩, fun _ _ => ⟨fun _ => rfl, fun _ => rfl, fun _ => rfl, fun _ => rfl⟩, fun _ _ => ⟨fun _ => rfl, fun _ => rfl, fun _ => rfl, fun _ => rfl, fun _ => rfl⟩, fun _ _ => ⟨fun _ => rfl, fun _ => rfl⟩, fun _ _ => ⟨fun _ => rfl, fun _ => rfl, fun _ => rfl, fun _ => rfl, fun _ => rfl, fun _ => rfl, fun _ => rfl, fun _ => rfl, fun _ => rfl, fun _ => rfl⟩, fun _ _ => ⟨fun _ => rfl, fun _ => rfl, fun _ => rfl, fun _ => rfl, fun _ => rfl, fun _ => rfl⟩, fun _ _ => ⟨fun _ => rfl, fun _ => rfl, fun _ => rfl⟩, fun _ _ => ⟨fun _ => rfl, fun _ => rfl⟩, fun _ _ => ⟨fun _ => rfl, fun _ => rfl, fun _ => rfl, fun _ => rfl, fun _ => rfl, fun _ => rfl, fun _ => rfl, fun _ => rfl, fun _ => rfl, fun _ => rfl, fun _ => rfl⟩, fun _ _ => ⟨fun _ => rfl, fun _ => rfl, fun _ => rfl⟩, fun _ _ => ⟨fun _ => rfl, fun _ => rfl, fun _ => rfl⟩⟩
end Go.Vs
end
section
set_option linter.unusedVariables false
namespace Go.Vs
abbrev nul : ByteArray := ByteArray.mk #[]
def aRU : aA false → Bool | .sl _ _ => false | .nl _ => false | _ => true
def gY (p : El → Bool) : Int → List El → Int
  | _, [] => -1
  | i, e :: es => if p e = true then i else gY p (i + 1) es
theorem aIQ (p : El → Bool) : ∀ (es : List El) (i : Int), 0 ≤ i → gY p i es = -1 ∨ (i ≤ gY p i es ∧ gY p i es < i + es.length)
  | [], i, h => .inl rfl
  | e :: es, i, h => by
    unfold gY
    split
    · right; simp; omega
    · rcases aIQ p es (i + 1) (by omega) with h1 | h1
      · exact .inl h1
      · right; simp only [List.length_cons]; push_cast; omega
theorem aO1 (p : El → Bool) : ∀ (es : List El) (i j : Nat), gY p (i : Int) es = (j : Int) → ∃ h : j - i < es.length, i ≤ j ∧ p es[j - i] = true
  | [], i, j, h => by simp [gY] at h
  | e :: es, i, j, h => by
    unfold gY at h
    split at h
    · rename_i hp
      have : i = j := by omega
      subst this
      refine ⟨by simp, Nat.le_refl _, ?_⟩
      simp only [Nat.sub_self, List.getElem_cons_zero]; exact hp
    · obtain ⟨h1, h2, h3⟩ := aO1 p es (i + 1) j (by push_cast; exact h)
      have hj : j - i = (j - (i + 1)) + 1 := by omega
      refine ⟨by simp; omega, by omega, ?_⟩
      simp only [hj, List.getElem_cons_succ]
      exact h3
theorem xG {p : El → Bool} {es : List El} (h : ¬ gY p 0 es < 0) : ∃ (j : Nat) (hj : j < es.length), gY p 0 es = (j : Int) ∧ p es[j] = true := by
  rcases aIQ p es 0 (by omega) with h1 | ⟨h1, h2⟩
  · omega
  · obtain ⟨j, hj⟩ : ∃ j : Nat, gY p 0 es = (j : Int) := ⟨(gY p 0 es).toNat, by omega⟩
    obtain ⟨a, _, b⟩ := aO1 p es 0 j hj
    exact ⟨j, by simpa using a, hj, by simpa using b⟩
theorem aCV (p : El → Bool) : ∀ (es : List El) (i : Int), 0 ≤ i → decide (gY p i es ≥ 0) = es.any p
  | [], i, h => by simp [gY]
  | e :: es, i, h => by
    unfold gY
    cases hp : p e with
    | true => simp [hp]; omega
    | false => simpa [hp] using aCV p es (i + 1) (by omega)
abbrev at3 (s : ByteArray) (e : El) : Bool := (aY e 3).toList == s.toList
section
variable {β : Type} {es : List El}
theorem aPx {p : El → Bool} {A : Int → Option β} {yes : Int → Option β} {no : Option β} (hend : A es.length = no)
    (hstep : ∀ (i : Nat) (hi : i < es.length), A i = aD (p es[i]) (yes i) (A ((i + 1 : Nat) : Int))) :
    ∀ i : Nat, i ≤ es.length → A i = if gY p i (es.drop i) < 0 then no else yes (gY p i (es.drop i)) := by
  refine cC ?_ ?_
  · rw [hend]; simp [gY]
  · intro i hi ih
    rw [hstep i hi, dG hi, ih, bO, show gY p (i : Int) (es[i] :: es.drop (i + 1)) = if p es[i] = true then (i : Int) else gY p (i + 1) (es.drop (i + 1)) from rfl]
    by_cases hp : p es[i] = true
    · rw [if_pos hp, if_pos hp, if_neg (by omega)]
    · rw [if_neg hp, if_neg hp]; push_cast; rfl
theorem sV {p : El → Bool} {A : Int → Option β} {yes : Int → Option β} {no : Option β} (hend : A es.length = no)
    (hstep : ∀ (i : Nat) (hi : i < es.length), A i = aD (p es[i]) (yes i) (A ((i + 1 : Nat) : Int))) :
    A 0 = if gY p 0 es < 0 then no else yes (gY p 0 es) := by
  have := aPx hend hstep 0 (Nat.zero_le _)
  simpa using this
theorem aBP {p : El → Bool} {A : Int → Ret false} {bs : List (List (SV false))} (hend : A es.length = some (aG (-1), bs))
    (hstep : ∀ (i : Nat) (hi : i < es.length), A i = aD (p es[i]) (some (aG i, bs)) (A ((i + 1 : Nat) : Int))) : A 0 = some (aG (gY p 0 es), bs) := by
  rw [sV (yes := fun i => some (aG i, bs)) hend hstep]
  split
  · rename_i h
    rcases aIQ p es 0 (by omega) with h1 | h1
    · rw [h1]
    · omega
  · rfl
theorem aJg {p : El → Bool} {A : Int → Option β} {yes no : Option β} (hend : A es.length = no)
    (hstep : ∀ (i : Nat) (hi : i < es.length), A i = aD (p es[i]) yes (A ((i + 1 : Nat) : Int))) :
    A 0 = if es.any p = true then yes else no := by
  have h := sV (yes := fun _ => yes) hend hstep
  rw [h, ← aCV p es 0 (by omega)]
  by_cases hc : gY p 0 es < 0
  · rw [if_pos hc, if_neg (by simp; omega)]
  · rw [if_neg hc, if_pos (by simp; omega)]
def lF (g : Nat → El → List El) : Nat → List El → List El
  | _, [] => []
  | i, e :: r => g i e ++ lF g (i + 1) r
theorem aCH (g : El → List El) : ∀ (l : List El) (i : Nat), lF (fun _ => g) i l = l.flatMap g
  | [], _ => rfl
  | e :: r, i => by rw [lF, aCH g r, List.flatMap_cons]
theorem qZ {g : Nat → El → List El} {c : Nat} : ∀ (l : List El) (i : Nat), (∀ (j : Nat) (hj : j < l.length), (g (i + j) l[j]).length ≤ c) → (lF g i l).length ≤ l.length * c
  | [], _, _ => by simp [lF]
  | e :: r, i, h => by
    have h0 := h 0 (by simp)
    have h1 := qZ (g := g) (c := c) r (i + 1) (fun j hj => by have := h (j + 1) (by simpa using hj); simpa [Nat.add_assoc, Nat.add_comm 1 j] using this)
    simp at h0
    rw [lF, List.length_append, List.length_cons, Nat.add_mul]; omega
theorem aLp {g : Nat → El → List El} {x : El} : ∀ (l : List El) (i : Nat), x ∈ lF g i l → ∃ (j : Nat) (hj : j < l.length), x ∈ g (i + j) l[j]
  | [], _, h => by simp [lF] at h
  | e :: r, i, h => by
    rw [lF] at h
    rcases List.mem_append.1 h with h | h
    · exact ⟨0, by simp, by simpa using h⟩
    · obtain ⟨j, hj, hx⟩ := aLp r (i + 1) h
      exact ⟨j + 1, by simpa using hj, by simpa [Nat.add_assoc, Nat.add_comm 1 j] using hx⟩
theorem aQy {g : Nat → El → List El} {A : List El → Int → Option β} {fin : List El → Option β} {c N : Nat} (hg : ∀ (j : Nat) (hj : j < es.length), (g j es[j]).length ≤ c)
    (hend : ∀ out, out.length ≤ N → A out es.length = fin out)
    (hstep : ∀ (i : Nat) (hi : i < es.length) (out : List El), out.length + c ≤ N → A out i = A (out ++ g i es[i]) ((i + 1 : Nat) : Int)) :
    ∀ i : Nat, i ≤ es.length → ∀ out : List El, out.length + (es.length - i) * c ≤ N → A out i = fin (out ++ lF g i (es.drop i)) := by
  refine cC ?_ ?_
  · intro out ho; rw [hend out (by simpa using ho)]; simp [lF]
  · intro i hi ih out ho
    have e1 : (es.length - i) * c = (es.length - (i + 1)) * c + c := by rw [show es.length - i = (es.length - (i + 1)) + 1 by omega, Nat.add_mul, Nat.one_mul]
    rw [hstep i hi out (by omega), ih _ (by have := hg i hi; rw [List.length_append]; omega), dG hi, lF, List.append_assoc]
theorem oQ {g : Nat → El → List El} {A : List El → Int → Option β} {fin : List El → Option β} {c N : Nat} (hg : ∀ (j : Nat) (hj : j < es.length), (g j es[j]).length ≤ c)
    (hend : ∀ out, out.length ≤ N → A out es.length = fin out)
    (hstep : ∀ (i : Nat) (hi : i < es.length) (out : List El), out.length + c ≤ N → A out i = A (out ++ g i es[i]) ((i + 1 : Nat) : Int))
    {out : List El} (ho : out.length + es.length * c ≤ N) : A out 0 = fin (out ++ lF g 0 es) := by
  have := aQy hg hend hstep 0 (Nat.zero_le _) out (by simpa using ho)
  simpa using this
theorem aPs {g : Nat → El → List El} {A : List El → Int → Option β} {fin : List El → Option β} {c N : Nat} (hg : ∀ (j : Nat) (hj : j < es.length), (g j es[j]).length ≤ c)
    (hend : ∀ out, out.length ≤ N → A out es.length = fin out)
    (hstep : ∀ (i : Nat) (hi : i < es.length) (out : List El), out.length + c ≤ N → A out i = A (out ++ g i es[i]) ((i + 1 : Nat) : Int))
    (ho : es.length * c ≤ N) : A [] 0 = fin (lF g 0 es) :=
  oQ hg hend hstep (out := []) (by simpa using ho)
end
def ifP (q : Bool) (x : El) : List El := if q = true then [x] else []
theorem rF (q : Bool) (x : El) : (ifP q x).length ≤ 1 := by unfold ifP; split <;> simp
theorem aOT {q : Bool} {x y : El} (h : y ∈ ifP q x) : q = true ∧ y = x := by unfold ifP at h; split at h <;> simp_all
@[simp] theorem rE (x : El) : ifP true x = [x] := rfl
@[simp] theorem sU (x : El) : ifP false x = [] := rfl
theorem aKm {n k z : Nat} (h : n + k ≤ 1000000000000) (hz : z ≤ 100) : decide ((n + k) * z ≤ aH) = true := by
  have hb : aH = 140737488355328 := rfl
  rw [decide_eq_true_eq]
  calc (n + k) * z ≤ 1000000000000 * 100 := Nat.mul_le_mul h hz
    _ ≤ aH := by rw [hb]; decide
end Go.Vs
end
section
set_option linter.unusedVariables false
namespace Go.Vs
open Go
variable {m : Bool}
theorem aM1 (a b : List (List (aA m))) : iM (a ++ b) = iM a ++ iM b := by simp [iM]
theorem aGD (e : List (aA m)) (b : List (List (aA m))) : iM (e :: b) = e.map SV.leaf ++ iM b := by simp [iM]
theorem aCG {z : Nat} {L : List (List (aA m))} (h : ∀ e ∈ L, e.length = z) : (iM L).length = L.length * z := by unfold iM; rw [List.length_map, qQ h]
theorem aET {z i : Nat} {L : List (List (aA m))} (h : ∀ e ∈ L, e.length = z) (hi : i ≤ L.length) : iM L = iM (L.take i) ++ iM (L.drop i) ∧ (iM (L.take i)).length = i * z := by
  refine ⟨by rw [← aM1, List.take_append_drop], ?_⟩
  rw [aCG (fun e he => h e (List.mem_of_mem_take he)), List.length_take, Nat.min_eq_left hi]
theorem aNo {z i : Nat} {L : List (List (aA m))} (h : ∀ e ∈ L, e.length = z) (hi : i < L.length) : cG (((iM L).drop (i * z)).take z) = some L[i] := by
  obtain ⟨h1, h2⟩ := aET h (Nat.le_of_lt hi)
  rw [h1, List.drop_left' h2, List.drop_eq_getElem_cons hi, aGD, List.take_left' (by rw [List.length_map]; exact h _ (List.getElem_mem hi))]
  exact pE _
theorem aQg {z i : Nat} {L : List (List (aA m))} {e : List (aA m)} (h : ∀ e ∈ L, e.length = z) (hi : i < L.length) (he : e.length = z) : mR (iM L) (i * z) (e.map SV.leaf) = iM (L.set i e) := by
  obtain ⟨h1, h2⟩ := aET h (Nat.le_of_lt hi)
  unfold mR
  rw [h1, List.take_left' h2, List.length_map, he, List.drop_append, h2, List.drop_of_length_le (by omega), List.nil_append, Nat.add_sub_cancel_left, List.drop_eq_getElem_cons hi, aGD, List.drop_left' (by rw [List.length_map]; exact h _ (List.getElem_mem hi)),
    List.set_eq_take_append_cons_drop, if_pos hi, aM1, aGD, List.append_assoc]
theorem aOz {z w : Nat} {L : List (List (aA m))} (h : ∀ e ∈ L, e.length = z) (hw : w ≤ L.length) (T : List (SV m)) : cG ((mR (iM L) (w * z) T).take (w * z)) = some (L.take w).flatten := by
  obtain ⟨h1, h2⟩ := aET h hw
  unfold mR
  rw [h1, List.take_left' h2, List.append_assoc, List.take_left' h2]
  exact pE _
theorem aMe {z w : Nat} {L : List (List (aA m))} (h : ∀ e ∈ L, e.length = z) (hw : w ≤ L.length) : gT z w (L.take w).flatten = L.take w := by
  have := eN (z := z) (l := L.take w) (fun e he => h e (List.mem_of_mem_take he))
  rwa [List.length_take, Nat.min_eq_left hw] at this
theorem aB7 {p : SV m → Bool} {L : List (List (aA m))} (hp : ∀ l : aA m, p (.leaf l) = true) : (iM L).all p = true := by
  rw [List.all_eq_true]; intro x hx
  unfold iM at hx
  obtain ⟨l, _, rfl⟩ := List.mem_map.1 hx
  exact hp l
theorem aPU {v l : List (SV m)} {p : Nat} (h : p + l.length ≤ v.length) : (mR v p l).length = v.length := aLL h
theorem aKd (p : El → Bool) : ∀ (es : List El) (i j : Nat), gY p (i : Int) es = (j : Int) → ∃ h : j - i < es.length, i ≤ j ∧ p es[j - i] = true ∧ (es.take (j - i)).filter (fun e => !p e) = es.take (j - i)
  | [], i, j, h => by simp [gY] at h
  | e :: es, i, j, h => by
    unfold gY at h
    by_cases hp : p e = true
    · rw [if_pos hp] at h
      have : i = j := by omega
      subst this
      exact ⟨by simp, Nat.le_refl _, by simpa using hp, by simp⟩
    · rw [if_neg hp] at h
      obtain ⟨h1, h2, h3, h4⟩ := aKd p es (i + 1) j (by rw [show (((i + 1 : Nat)) : Int) = (i : Int) + 1 by omega]; exact h)
      have e1 : j - i = j - (i + 1) + 1 := by omega
      refine ⟨by simp; omega, by omega, ?_, ?_⟩
      · simp only [e1, List.getElem_cons_succ]; exact h3
      · rw [e1, List.take_succ_cons, List.filter_cons, if_pos (by simpa using hp), h4]
theorem aLo {p : El → Bool} : ∀ {es : List El} {i : Int}, 0 ≤ i → gY p i es = -1 → es.filter (fun e => !p e) = es
  | [], _, _, _ => rfl
  | e :: es, i, h0, h => by
    unfold gY at h
    by_cases hp : p e = true
    · rw [if_pos hp] at h; omega
    · rw [if_neg hp] at h
      rw [List.filter_cons, if_pos (by simpa using hp), aLo (by omega) h]
theorem aHS {p : El → Bool} {es : List El} {r : Nat} (h : r < es.length) : (es.take (r + 1)).filter p = (es.take r).filter p ++ (if p es[r] then [es[r]] else []) := by
  rw [List.take_succ_eq_append_getElem h, List.filter_append]
  congr 1
  by_cases hp : p es[r] = true <;> simp [hp]
end Go.Vs
end
section
namespace Go.Vs
end Go.Vs
end
section
namespace Go.Vs
open Go Go.RowKit
variable {m : Bool} {P : Program} {N : Env} {s : St m} {tmps : Array Value} {w w' : World} {F : Fr} {Ow : Own} {bm : Nat → Nat}
end Go.Vs
end
section
set_option linter.unusedVariables false
set_option linter.unusedSimpArgs false
namespace Go.Vs
open Go Go.RowKit
variable {m : Bool} {P : Program} {N : Env}
def aK0 (t : TypeId) : Code :=
  (Code.region 0 #[{ dst := some 2, op := Op.assign (Operand.const (Value.slice none 0 0)), type := t, pos := "slices.go:355", after := #[], guard := none }] false).seq
    (((Code.region 1 #[{ dst := some 3, op := Op.move (Operand.tmp 0), type := t, pos := "slices.go:357", after := #[], guard := none },
        { dst := some 4, op := Op.binOp BinOp.eql t (Operand.tmp 3) (Operand.const (Value.slice none 0 0)) t, type := 4, pos := "slices.go:357", after := #[{ on := 0, ground := Ground.data }], guard := none }] false).seq
      (Code.cond (Operand.tmp 4) ((Code.region 2 #[{ dst := some 2, op := Op.assign (Operand.const (Value.slice none 0 0)), type := t, pos := "slices.go:358", after := #[], guard := none }] false).seq Code.ret) Code.skip)).seq
      ((Code.region 3 #[{ dst := some 5, op := Op.buildSlice t 0 #[], type := t, pos := "slices.go:362", after := #[], guard := none },
        { dst := some 6, op := Op.move (Operand.tmp 0), type := t, pos := "slices.go:362", after := #[], guard := none },
        { dst := some 7, op := Op.call { callee := Callee.builtin Builtin.append, args := #[Operand.tmp 5, Operand.tmp 6], argTypes := #[t, t] }, type := t, pos := "slices.go:362", after := #[{ on := 0, ground := Ground.data }, { on := 1, ground := Ground.data }], guard := none },
        { dst := some 2, op := Op.assign (Operand.tmp 7), type := t, pos := "slices.go:362", after := #[{ on := 2, ground := Ground.data }, { on := 2, ground := Ground.chain }, { on := 0, ground := Ground.phase }, { on := 1, ground := Ground.phase }, { on := 2, ground := Ground.phase }], guard := none }] false).seq Code.ret))
theorem aCW {ops : Array Oper} {Q : Exit → Act → World → Prop} {i : Nat} {rest : List Nat} {a : Act} {w w' : World} {o : Oper} {z : Value} (hops : ops[i]? = some o) (hg : o.guard = none) (hrun : (execOp a.eval o).run P w = .ok (.value z) w')
    (hk : wpOps P ops Q rest (a.put o.dst z) w') : wpOps P ops Q (i :: rest) a w := by
  unfold wpOps
  rw [hops]
  simp only
  rw [if_pos (by simp [Region.wanted, hg])]
  refine .inl ?_
  unfold Oper.wp
  rw [hrun]
  exact hk
def yV (P : Program) (e : TypeId) (i : TypeInfo) (q : Bool) : List (SV m) → List (List (SV m)) → Option (SV m × List (List (SV m)))
  | [.leaf (.sl _ es)], [] => if es.length * i.bytes ≤ aH ∧ sized i.size es = true then some (SV.mkO q (some e) es, []) else none
  | _, _ => none
theorem aQk (q : Bool) (eo : Option TypeId) (es : List (List (aA m))) : (SV.mkO q eo es).backOk 0 = true := by cases q <;> rfl
theorem aHZ {f : FuncId} {fn : Func} {t e : TypeId} {i : TypeInfo} {z : Value} (hfn : P.funcs[f]? = some fn) (hb : fn.body = some (aK0 t)) (hnt : fn.ntmps = 8) (hres : fn.results = #[.tmp 2]) (hnm : (fn.name == "runtime.NumGoroutine") = false)
    {d0 : TypeDesc} (hue : P.underlying e = some d0) (hu : P.underlying t = some (.slice e)) (hi : P.info? e = some i) (hz : i.zero = some z) (hzs : nN P e = true) (h0 : 0 < i.size) (hby : 0 < i.bytes) (q : Bool) :
    ∀ (args : List (SV m)) (boxes : List (List (SV m))) (r : SV m × List (List (SV m))), yV P e i q args boxes = some r → args.all SV.handed = true → (∀ c ∈ boxes, ∀ x ∈ c, x.flat = true) →
      r.2.length = boxes.length ∧ r.1.backOk boxes.length = true ∧ (∀ cs ∈ r.2, ∀ c ∈ cs, c.flat = true) ∧ (∃ fn, P.funcs[f]? = some fn ∧ (fn.name == "runtime.NumGoroutine") = false ∧ fn.body.isNone = false) ∧
      ∀ (w : World) (F : Fr) (Ow : Own) (bm : Nat → Nat) (vals : Array Value), Inv P { tmps := args, boxes := boxes.map some } vals w F N Ow bm →
        Calls P f vals w fun e w' => ∃ v F' Ow', e = .returned v ∧ Inv P { tmps := [r.1], boxes := r.2.map some } #[v] w' F' N Ow' bm ∧ Far N w F Ow w' F' Ow' := by
  intro args boxes r hr hh hf
  unfold yV at hr
  split at hr
  · rename_i c es
    split at hr
    · rename_i hcnd
      obtain ⟨hmax, hsz⟩ := hcnd
      simp only [Option.some.injEq] at hr
      subst hr
      refine ⟨rfl, aQk q _ _, fun cs hcs => by simp at hcs, ⟨fn, hfn, hnm, by rw [hb]; rfl⟩, fun w F Ow bm vals h => ?_⟩
      have hlen := h.len
      have hs0 := h.slot 0
      have hL : dQ w F N (.sl c es) (vals.getD 0 undef) := by simpa [aU, dB] using hs0
      obtain ⟨v, rfl⟩ : ∃ v, vals = #[v] := by
        have hl1 : vals.size = 1 := hlen.symm
        refine ⟨vals[0], ?_⟩
        apply Array.ext
        · simp [hl1]
        · intro j h1 h2
          have : j = 0 := by omega
          subst this
          simp
      have hL : dQ w F N (.sl c es) v := by simpa using hL
      obtain ⟨A, cap, z', vs, rfl, hcap, hez, hvl, hcell, hrr⟩ := aDd hL
      have hno : ∀ (t : Nat) (s : St m), s.tmps.length ≤ t → ¬ s.holds (.tmp t) := fun t s ht => by
        show ¬ iN (s.tmps.getD t .any) = true
        rw [List.getD_eq_getElem?_getD, List.getElem?_eq_none ht]
        simp [iN]
      have done : ∀ (a : Act) (w' : World) (v' : Value) (F' : Fr) (Ow' : Own), a.defers = [] → a.tmps.getD 2 undef = v' → kT P w' F' N Ow' (.tmp 0) q (some e) es v' → Low N w' F' → (∀ g, w'.heap.size ≤ g → F' g = 0 ∧ Ow' g = none) → (∀ g, N.Z g = true → Ow' g = none ∧ ∃ cur e, w'.heap[g]? = some (.cells cur e (0, 0))) → Far N w F Ow w' F' Ow' →
          bodyPost P fn (fun e_1 w' => ∃ v F' Ow', e_1 = .returned v ∧ Inv P { tmps := [SV.mkO q (some e) es], boxes := ([] : List (List (SV m))).map some } #[v] w' F' N Ow' bm ∧ Far N w F Ow w' F' Ow') .ret a w' := by
        intro a w' v' F' Ow' hd hv hO hlow hnew hzow hfar
        refine ⟨hd, v', ?_, v', F', Ow', rfl, ⟨rfl, fun t => ?_, fun b cs hc => by simp [bB] at hc, hlow, hnew, fun b cs hc => by simp [bB] at hc, hzow⟩, hfar⟩
        · rw [aJT, hres]
          simp [vW, hv]
        · cases t with
          | zero => cases q <;> exact hO
          | succ t => simp only [List.getD_cons_succ, List.getD_nil]; exact aU.any
      refine calls_of_wp hfn hb ?_
      rw [hnt]
      unfold aK0
      refine wp_seq (wp_region ?_)
      refine aCW (z := .slice none 0 0) (w' := w) rfl rfl (by simp [Act.eval, Act.put, execOp]) ?_
      refine wp_seq (wp_seq (wp_region ?_))
      refine aCW (z := .slice A es.length cap) (w' := w) rfl rfl (by simp [Act.eval, Act.put, execOp]) ?_
      refine aCW (z := .bool A.isNone) (w' := w) rfl rfl ?_ ?_
      · have := run_eql_slice_nil (P := P) w t e A es.length cap hu
        simp [Act.eval, Act.put, execOp, eqGuard, this]
      cases A with
      | none =>
        have hes : es = [] := by
          rcases Nat.eq_zero_or_pos es.length with h' | h'
          · exact List.eq_nil_of_length_eq_zero h'
          · obtain ⟨_, _, h'', _⟩ := hcell h'; simp at h''
        subst hes
        refine wp_cond_true (by simp [Act.eval, Act.put]) (wp_seq (wp_region ?_))
        refine aCW (z := .slice none 0 0) (w' := w) rfl rfl (by simp [Act.eval, Act.put, execOp]) ?_
        refine wp_ret ?_
        exact done _ w (.slice none 0 0) F (fun g => none) rfl (by simp [Act.put]) (.inl ⟨rfl, rfl⟩) h.low (fun g hg => ⟨(h.new g hg).1, rfl⟩) (fun g hg => ⟨rfl, (h.zow g hg).2⟩) ⟨rfl, rfl, rfl, Nat.le_refl _, dW.refl _ _, fun g _ _ => ⟨fun _ => rfl, rfl, rfl⟩⟩
      | some ad =>
        refine wp_cond_false (by simp [Act.eval, Act.put]) (wp_skip ?_)
        refine wp_seq (wp_region ?_)
        obtain ⟨z1, w1, e1, i1, es1, hrun1, hv1, hi1, hp1, G1⟩ := aBg (m := m) (P := P) (N := N) (F := F) (w := w) (t := t) (n := 0) (ps := []) (qs := #[]) (v := .own (some e) []) (h.new _ (Nat.le_refl _)).1 (by
          have hel : nZ P t = some e := by unfold nZ; rw [hu]
          have hdd : ∃ d, P.underlying e = some d := ⟨d0, hue⟩
          obtain ⟨d, hd⟩ := hdd
          have hsT : jM P e = some i.size := by unfold jM; rw [hd, hi]; rfl
          simp [qS, hel, hsT, hzs, aB, h0, aHn]) .nil
        obtain ⟨rfl, rfl⟩ : e = e1 ∧ es1 = [] := by cases hv1; exact ⟨rfl, rfl⟩
        rw [hi] at hi1
        cases hi1
        obtain ⟨F1, O1, k1, k2, k3⟩ := h.grown (loc := .blk 0) (to := .tmp 1) hi h0 G1 (.inr rfl) h.low.le q (fun _ => (h.new _ (Nat.le_refl _)).1) (aDf (Nat.le_refl _))
        refine aCW (z := z1) (w' := w1) rfl rfl (by simp [Act.eval, Act.put, execOp, hrun1]) ?_
        refine aCW (z := .slice (some ad) es.length cap) (w' := w1) rfl rfl (by simp [Act.eval, Act.put, execOp]) ?_
        have hL1 : dQ w1 F1 N (.sl c es) (.slice (some ad) es.length cap) := hL.keeps k2.keeps
        obtain ⟨g1, cap1, cur1, hz1⟩ : ∃ g cap1 cur, z1 = .slice (some ⟨g, 0, none⟩) 0 cap1 ∧ True := by
          obtain ⟨cap', cur', vals', hv', _⟩ := G1.row
          exact ⟨_, cap', cur', by simpa using hv', trivial⟩
        have hRow : aOS w1 F1 N es (.slice (some ad) es.length cap) := dQ.see hL1
        obtain ⟨v2, w2, hrun2, hcase⟩ := zQ (ty := t) (fun g hg => (k1.new g hg).1) k1.low.le k3 (by rfl) hRow hu hi hzs h0 hby (aDc hsz) (by simpa using hmax)
        refine aCW (z := v2) (w' := w2) rfl rfl (by simp [Act.eval, Act.put, execOp, resolve, invoke, builtin, hrun2]) ?_
        refine aCW (z := v2) (w' := w2) rfl rfl (by simp [Act.eval, Act.put, execOp]) ?_
        refine wp_ret ?_
        rcases hcase with ⟨rfl, hnil, rfl⟩ | ⟨g, G2, hN, hg, hqF, hbs⟩
        · have hnil' : es = [] := by simpa using hnil
          subst hnil'
          exact done _ w2 (.slice none 0 0) F1 (fun g => none) rfl (by simp [Act.put]) (.inl ⟨rfl, rfl⟩) k1.low (fun g hg => ⟨(k1.new g hg).1, rfl⟩) (fun g hg => ⟨rfl, (k1.zow g hg).2⟩) ⟨k2.os, k2.tape, k2.output, k2.size, k2.keeps, fun g hg ho => ⟨(k2.old g hg ho).1, (k2.old g hg ho).2.1, rfl⟩⟩
        · obtain ⟨F2, O2, q1, q2, q3⟩ := k1.grown (loc := .tmp 1) (to := .tmp 0) hi h0 G2 (hg.imp (fun x => ⟨x.1, hno 1 _ (by simp)⟩) id) hN q hqF hbs
          exact done _ w2 v2 F2 O2 rfl (by simp [Act.put]) (by simpa using q3) q1.low q1.new q1.zow (k2.trans q2)
    · simp at hr
  · simp at hr
end Go.Vs
end
section
set_option linter.unusedVariables false
namespace Go.Vs
open Go Go.RowKit
variable {m : Bool} {P : Program} {N : Env}
theorem Inv.inPlace {a r : SV m} {cs cs' : List (SV m)} {vals : Array Value} {w w' : World} {F : Fr} {Ow : Own} {bm : Nat → Nat} {cur cur' : Array Value} {e : TypeId} {v : Value}
    (h : Inv P { tmps := [a], boxes := [some cs] } vals w F N Ow bm) (hb : w.heap[bm 0]? = some (.cells cur e (0, 0))) (hF : F (bm 0) = 0) (hO : Ow (bm 0) = some (.blk 0))
    (os : w'.os = w.os) (tape : w'.tape = w.tape) (output : w'.output = w.output) (size : w.heap.size ≤ w'.heap.size) (block : ∀ k, k < w.heap.size → k ≠ bm 0 → w'.heap[k]? = w.heap[k]?)
    (hb' : w'.heap[bm 0]? = some (.cells cur' e (0, 0))) (hs : cur'.size = cur.size) (hl : cs'.length ≤ cur'.size)
    (hrep : ∀ (j : Nat) (c : SV m) (u : Value), cs'[j]? = some c → cur'[j]? = some u → aU P w' F N Ow bm (fun b => (bB [some cs'] b).isSome) (.box 0 j) c u)
    (hr : aU P w' F N Ow bm (fun b => (bB [some cs'] b).isSome) (.tmp 0) r v) :
    Inv P { tmps := [r], boxes := [some cs'] } #[v] w' F N Ow bm ∧ Far N w F Ow w' F Ow := by
  have hg : bm 0 < w.heap.size := (Array.getElem?_eq_some_iff.1 hb).1
  have hk : dW N w F w' F := by
    refine .mk' (fun k j hj => ?_) (fun k => Nat.le_refl _) (lW.but (bm 0) block fun _ => ⟨cur', e, hb'⟩) (BSz.but (bm 0) block (aFJ hb hb' hs))
    by_cases hkg : k = bm 0
    · subst hkg; rw [hF] at hj; omega
    · by_cases hks : k < w.heap.size
      · simp only [World.cell?, block k hks hkg]
      · rw [(h.new k (by omega)).1] at hj; omega
  refine ⟨⟨rfl, fun t => ?_, fun b cs2 hc => ?_, h.low.to hk size, fun g hg' => h.new g (Nat.le_trans size hg'), fun b cs2 hc => ?_, fun g hz => ?_⟩, ⟨os, tape, output, size, hk, fun g hgs ho => ⟨fun _ => block g hgs (fun e1 => by subst e1; rw [hO] at ho; simp at ho), rfl, ho⟩⟩⟩
  · cases t with
    | zero => exact hr
    | succ t => simp only [List.getD_cons_succ, List.getD_nil]; exact aU.any
  · cases b with
    | zero =>
      obtain rfl : cs' = cs2 := by simpa [bB] using hc
      exact .inr ⟨cur', e, hb', hl, hF, hO, hrep⟩
    | succ b => simp [bB] at hc
  · cases b with
    | zero => exact h.bmn 0 cs (by simp [bB])
    | succ b => simp [bB] at hc
  · obtain ⟨h1, c1, e1, h2⟩ := h.zow g hz
    have hne : g ≠ bm 0 := fun e2 => by subst e2; rw [hO] at h1; simp at h1
    exact ⟨h1, c1, e1, by rw [block g (Nat.lt_of_lt_of_le (N.lt g hz) h.low.le) hne]; exact h2⟩
end Go.Vs
end
section
set_option linter.unusedVariables false
namespace Go.Vs
open Go Go.RowKit Go.Proofs
variable {P : Program} {N : Env}
def bsB (l : List UInt8) : ByteArray := ⟨l.toArray⟩
def mQ (xs : List (List UInt8)) : List (SV false) := xs.map fun x => .leaf (.str (bsB x))
theorem aJK (xs : List (List UInt8)) : (mQ xs).length = xs.length := by simp [mQ]
theorem aGE (xs : List (List UInt8)) : ∀ x ∈ mQ xs, x.flat = true := fun x hx => by obtain ⟨y, _, rfl⟩ := List.mem_map.1 hx; rfl
theorem aPc {w w' : World} {blk n : Nat} {cur : Array Value} {e : TypeId} {ys : List (List UInt8)} {os : Array Obj} (hb : w.heap[blk]? = some (.cells cur e (0, 0)))
    (hw : w' = Go.Sort.grow (Go.Sort.putRow encStr (Go.Sort.ahead w n) blk 0 ys.toArray) os) :
    w'.os = w.os ∧ w'.tape = w.tape ∧ w'.output = w.output ∧ w.heap.size ≤ w'.heap.size ∧ (∀ k, k < w.heap.size → k ≠ blk → w'.heap[k]? = w.heap[k]?) ∧
      w'.heap[blk]? = some (.cells (Go.Sort.putCells encStr 0 ys.toArray cur) e (0, 0)) := by
  have hblk : blk < w.heap.size := (Array.getElem?_eq_some_iff.1 hb).1
  have hsz : (Go.Sort.putRow encStr (Go.Sort.ahead w n) blk 0 ys.toArray).heap.size = w.heap.size := by rw [Go.Sort.size_putRow]; rfl
  subst hw
  refine ⟨rfl, rfl, rfl, by rw [Go.Sort.size_grow, hsz]; omega, fun k hk hne => ?_, ?_⟩
  · rw [Go.Sort.heap_grow_old _ _ (by rw [hsz]; exact hk)]
    unfold Go.Sort.putRow Go.Sort.mapBlock
    simp only [Array.getElem?_modify, show ¬ blk = k from fun h => hne h.symm, if_false]
    rfl
  · rw [Go.Sort.heap_grow_old _ _ (by rw [hsz]; exact hblk)]
    unfold Go.Sort.putRow Go.Sort.mapBlock
    simp only [Array.getElem?_modify, if_true]
    show Option.map _ w.heap[blk]? = _
    rw [hb]
    rfl
theorem aMy (ys : List (List UInt8)) (cur : Array Value) : (Go.Sort.putCells encStr 0 ys.toArray cur).size = cur.size := by simp [Go.Sort.putCells]
theorem aRX {ys : List (List UInt8)} {cur : Array Value} {j : Nat} {u : Value} {y : List UInt8} (hy : ys[j]? = some y) (hu : (Go.Sort.putCells encStr 0 ys.toArray cur)[j]? = some u) : u = .string (bsB y) := by
  have hj : j < ys.length := (List.getElem?_eq_some_iff.1 hy).1
  unfold Go.Sort.putCells at hu
  rw [Array.getElem?_mapIdx] at hu
  cases hc : cur[j]? with
  | none => rw [hc] at hu; simp at hu
  | some x =>
    rw [hc] at hu
    simp only [Option.map_some, Option.some.injEq, Nat.zero_le, true_and, Nat.zero_add, List.size_toArray, hj, if_true, Nat.sub_zero] at hu
    rw [← hu, show ys.toArray[j]! = y from by rw [getElem!_pos _ j (by simpa using hj)]; simpa using (List.getElem?_eq_some_iff.1 hy).2]
    rfl
theorem aK6 {s : St false} {tmps : Array Value} {w : World} {F : Fr} {Ow : Own} {bm : Nat → Nat} {xs : List (List UInt8)} (h : Inv P s tmps w F N Ow bm) (hs : bB s.boxes 0 = some (mQ xs)) (hx : xs ≠ []) :
    ∃ cur e, w.heap[bm 0]? = some (.cells cur e (0, 0)) ∧ xs.length ≤ cur.size ∧ F (bm 0) = 0 ∧ Ow (bm 0) = some (.blk 0) ∧ Go.Sort.Holds encStr w (bm 0) 0 xs.toArray := by
  rcases h.box 0 _ hs with h0 | ⟨cur, e, hb, hl, hF, hO, hr⟩
  · cases xs with
    | nil => exact absurd rfl hx
    | cons x xs => simp [mQ] at h0
  · rw [aJK] at hl
    refine ⟨cur, e, hb, hl, hF, hO, fun j hj => ?_⟩
    have hj' : j < xs.length := by simpa using hj
    have hc : cur[j]? = some cur[j] := Array.getElem?_eq_getElem (by omega)
    have := hr j (.leaf (.str (bsB xs[j]))) cur[j] (by simp [mQ, hj']) hc
    have hR : dQ w F N (aA.str (bsB xs[j]) : aA false) cur[j] := by simpa [aU, dB] using this
    have hv : cur[j] = .string (bsB xs[j]) := by generalize cur[j] = u at hR; cases hR; rfl
    refine ⟨?_, ?_⟩
    · simp only [World.cell?, hb, Nat.zero_add]
      rw [if_neg (by simp), hc, hv, getElem!_pos _ j hj]
      simp [bsB]
    · simp only [World.frozen?, hb]
      simp
theorem aJh {a r : SV false} {cs : List (SV false)} {vals : Array Value} {w w' : World} {F : Fr} {Ow : Own} {bm : Nat → Nat} {cur : Array Value} {e : TypeId} {v : Value} {n : Nat} {ys : List (List UInt8)} {os : Array Obj}
    (h : Inv P { tmps := [a], boxes := [some cs] } vals w F N Ow bm) (hb : w.heap[bm 0]? = some (.cells cur e (0, 0))) (hl : ys.length ≤ cur.size) (hF : F (bm 0) = 0) (hO : Ow (bm 0) = some (.blk 0))
    (hw : w' = Go.Sort.grow (Go.Sort.putRow encStr (Go.Sort.ahead w n) (bm 0) 0 ys.toArray) os)
    (hr : aU P w' F N Ow bm (fun b => (bB [some (mQ ys)] b).isSome) (.tmp 0) r v) :
    Inv P { tmps := [r], boxes := [some (mQ ys)] } #[v] w' F N Ow bm ∧ Far N w F Ow w' F Ow := by
  obtain ⟨f1, f2, f3, f4, f5, f6⟩ := aPc hb hw
  refine h.inPlace hb hF hO f1 f2 f3 f4 f5 f6 (aMy _ _) (by rw [aJK, aMy]; exact hl) (fun j c u hc hu => ?_) hr
  unfold mQ at hc
  rw [List.getElem?_map] at hc
  cases hy : ys[j]? with
  | none => rw [hy] at hc; simp at hc
  | some y =>
    rw [hy] at hc
    simp only [Option.map_some, Option.some.injEq] at hc
    subst hc
    rw [aRX hy hu]
    exact aU.leaf (dQ.str _)
theorem aJj {a r : SV false} {cs : List (SV false)} {vals : Array Value} {w : World} {F : Fr} {Ow : Own} {bm : Nat → Nat} {v : Value}
    (h : Inv P { tmps := [a], boxes := [some cs] } vals w F N Ow bm) (hr : aU P w F N Ow bm (fun b => (bB [some cs] b).isSome) (.tmp 0) r v) :
    Inv P { tmps := [r], boxes := [some cs] } #[v] w F N Ow bm ∧ Far N w F Ow w F Ow := by
  refine ⟨⟨rfl, fun t => ?_, h.box, h.low, h.new, h.bmn, h.zow⟩, Far.refl _ _ _⟩
  cases t with
  | zero => exact hr
  | succ t => simp only [List.getD_cons_succ, List.getD_nil]; exact aU.any
end Go.Vs
end
section
namespace Go.Vs
namespace F
abbrev aSE := 4
abbrev aTv := 6
abbrev aTs := 9
abbrev aTy := 13
abbrev aTx := 19
abbrev aTm := 20
abbrev aUF := 21
abbrev aUG := 22
abbrev aUd := 26
abbrev aTC := 27
abbrev aT1 := 31
abbrev aTK := 32
abbrev aUb := 37
abbrev aTO := 38
abbrev aTF := 45
abbrev aS0 := 46
abbrev aTL := 47
abbrev aST := 48
abbrev aUg := 49
abbrev aT8 := 50
abbrev aT6 := 51
abbrev aT5 := 52
abbrev aS1 := 53
abbrev aTi := 54
abbrev aT9 := 55
abbrev aTB := 56
abbrev aUf := 57
abbrev aSK := 58
abbrev aUi := 59
abbrev aTQ := 60
abbrev aSJ := 61
abbrev aSR := 62
abbrev aTW := 63
abbrev aTA := 64
abbrev aUa := 65
abbrev aUA := 67
abbrev aUk := 68
abbrev aT7 := 69
abbrev aUn := 70
abbrev aUx := 76
abbrev aUm := 77
abbrev aUj := 78
abbrev aUc := 79
abbrev aUy := 88
abbrev aTY := 89
abbrev aTZ := 90
abbrev aTX := 91
abbrev aTU := 97
abbrev aTo := 98
abbrev aSq := 99
abbrev aSu := 100
abbrev aS6 := 101
abbrev aTE := 102
abbrev aTl := 103
abbrev aUu := 104
abbrev aTV := 105
abbrev aSN := 106
abbrev aTa := 107
abbrev aTh := 108
abbrev aS9 := 109
abbrev aS7 := 110
abbrev aSt := 111
abbrev aTH := 112
abbrev aUJ := 113
abbrev aSI := 114
abbrev aSG := 115
abbrev aSX := 116
abbrev aS4 := 117
abbrev aUt := 118
abbrev aSw := 119
abbrev aSD := 120
abbrev aSz := 121
abbrev aTk := 122
abbrev aTc := 123
abbrev aSL := 124
abbrev aTn := 125
abbrev aSU := 126
abbrev aUs := 127
abbrev aUo := 128
abbrev aTe := 132
abbrev aSM := 133
abbrev aTz := 134
abbrev aSW := 135
abbrev aUq := 136
abbrev aUz := 137
abbrev aTR := 138
abbrev aSx := 143
abbrev aTb := 144
abbrev aSO := 145
abbrev aTp := 146
abbrev aSV := 147
abbrev aUv := 148
abbrev aUp := 149
abbrev aUr := 150
abbrev aSr := 151
abbrev aUw := 152
abbrev aTw := 153
abbrev aUE := 154
abbrev aSS := 155
abbrev aT0 := 156
abbrev aS3 := 157
abbrev aTI := 158
abbrev aSv := 159
abbrev aSo := 160
abbrev aS5 := 161
abbrev aUC := 162
abbrev aSZ := 163
abbrev aT2 := 164
abbrev aS2 := 165
abbrev aTT := 166
abbrev aSY := 169
abbrev aTM := 170
abbrev aS8 := 171
abbrev aTP := 172
abbrev aSP := 174
abbrev aTG := 175
abbrev aTg := 176
abbrev aTJ := 177
abbrev aSp := 178
abbrev aTd := 179
abbrev aSC := 182
abbrev aSQ := 183
abbrev aTD := 184
abbrev aTf := 185
abbrev aTS := 186
abbrev aSs := 187
abbrev aT3 := 188
abbrev aTj := 189
abbrev aSH := 190
abbrev aSB := 191
abbrev aSn := 192
abbrev aUe := 204
abbrev aTq := 205
abbrev aT4 := 206
abbrev aTr := 207
abbrev aUh := 208
abbrev aTt := 209
abbrev aSF := 210
abbrev aSy := 211
abbrev aSA := 218
end F
namespace T
abbrev aUL := 5
abbrev aUK := 9
abbrev aUl := 81
abbrev aUI := 90
abbrev aTu := 117
abbrev aUD := 123
abbrev aUH := 148
abbrev aUB := 194
abbrev aTN := 196
end T
end Go.Vs
end
section
open Go Go.Vs Go.Proofs
namespace Go.Vs
def Hs : FuncId → fI := fun f => match f with
  | 4 => Tab.hints ⟨[],[],[],[],[],[[0,1,4],[],[10,11,12],[13],[],[15,16,17],[5,18],[],[20,21,22,23,24],[25,26],[27,28],[29,30,31],[6,9,32,33],[],[2,7,35,36,37,38],[],[3,8,40,41,42,43]],[],[(14,[14,3,2,5],[]),(19,[19,2,3],[]),(34,[34,8,3,2,7],[]),(39,[39,3,8],[]),(44,[44],[])],[(14,[14],[]),(19,[19],[]),(34,[34],[]),(39,[39],[]),(44,[44],[])],[]⟩
  | 6 => Tab.hints ⟨[],[],[],[],[],[[0,4],[5,6,7,8],[9],[],[11,12,13,14],[15],[],[2,17,18,19,20],[21],[],[1,23]],[[],[],[],[],[],[],[],[2]],[(10,[10,2,1],[2]),(16,[16,1,2],[2]),(22,[22,1],[])],[(10,[10],[]),(16,[16],[]),(22,[22],[])],[]⟩
  | 9 => Tab.hints ⟨[],[],[],[],[],[[0],[],[4,5,6,7],[8,9,10,11],[1,12,13,14,15],[3,16]],[[],[],[],[],[1],[3]],[],[],[]⟩
  | 13 => Tab.hints ⟨[],[],[],[],[],[[0,1,4],[5,6,7,8,9],[],[11,12,13,14,15],[],[2,3,17,18,19,20,21]],[[],[],[],[],[],[2,3]],[(10,[10,2,3],[2,3]),(16,[16,3,2],[2,3]),(22,[22],[])],[(10,[10],[]),(16,[16],[]),(22,[22],[])],[]⟩
  | 19 => Tab.hints ⟨[[],[2,3],[1],[],[],[],[2,3],[],[],[],[0,7],[0]],[],[],[(0,[0,1,2,3,4,8,9,10,11,12,13,14,15,16,17,18,19,20,21,22,23,24,25,26,27,28,29,30,31,32,33,34,35]),(2,[0,1,2,3,4,10,11,12,13,14,15,16,17,18,19,20,21,22,23,24,25,26,27,28,29,30,31,32,33,34,35])],[],[[0,1,4],[2,3,10,11,12],[13],[],[14],[16,17],[18,19,20],[],[21,22,23],[25,26],[27,28,29,30,31,32,33],[6,34,35]],[[],[2,3]],[(15,[15],[]),(24,[24],[])],[(15,[15,7,5],[]),(24,[24,9,8],[])],[]⟩
  | 20 => Tab.hints ⟨[[],[2,3]],[],[],[(0,[0,1,2,3,4,8,9,10,11,12,13,14,15,16,17,18,19,20,21,22,23,24,25,26,27,28,29,30]),(2,[0,1,2,3,4,8,9,10,11,12,13,14,15,16,17,18,22,23,24,25,26,27,28,29,30])],[(0,[9]),(2,[9])],[[0,1,4],[2,3,10,11,12],[],[],[13],[15,16],[17,18],[],[23,24],[9,25,26,27,28],[29],[6,30]],[[],[2,3],[],[],[],[],[],[],[],[9]],[(14,[14],[]),(22,[22],[])],[(14,[14,7,5],[]),(22,[22,21,19,20],[])],[]⟩
  | 21 => Tab.hints ⟨[[2],[1],[],[0,1],[],[],[],[],[],[],[0,7],[],[0,7],[],[],[],[],[],[0,10],[0,11,13],[1],[],[],[],[],[0,10],[],[],[],[0,9],[],[],[],[0,9],[0,1,2],[],[],[],[],[],[0,3,5],[],[0,8],[],[0,8],[0,1]],[],[],[(0,[0,1,4,7,8,9,10,11,12,13,14,15,16,17,18,19,20,21,22,23,24,25,26,27,28,29,30,31,32,33,34,35,36,37,38,39,40,41,42,43,44,45,46,47,48,49,50,51,52,53,54,55,56,57,58,59,60,61,62,63,64,65,66,67,68,69,70,71,72,73,74,75,76,77,78,79,80,81,82,83,84,85,86,87,88,89,90,91,92,93,94,95,96,97,98,99,100,101,102,103,104,105,106,107,108,109,110,111,112,113,114,115,116,117,118,119,120,121,122,123,124,125,126,127,128,129,130,131,132,133,134,135,136,137,138,139,140,141,142,143,144,145,146,147,148,149,150,151,152,153,154,155,156,157,158,159,160,161,162,163,164,165,166,167,168,169,170,171,172,173,174,175,176,177,178,179,180,181,182,183,184,185,186,187,188,189,190,191,192,193,194,195,196,197,198,199,200,201,202,203,204,205,206,207,208,209,210,211,212,213,214,215,216,217]),(2,[0,1,4,6,7,8,10,11,12,13,14,15,16,17,18,19,20,21,22,23,24,25,26,27,28,29,30,31,32,33,34,35,36,37,38,39,40,41,42,43,44,45,46,47,48,49,50,51,52,53,54,55,56,57,58,59,60,61,62,63,64,65,66,67,68,69,70,71,72,73,74,75,76,77,78,79,80,81,82,83,84,85,86,87,88,89,90,91,92,93,94,95,96,97,98,99,100,101,102,103,104,105,106,107,108,109,110,111,112,113,114,115,116,117,118,119,120,121,122,123,124,125,126,127,128,129,130,131,132,133,134,135,136,137,138,139,140,141,142,143,144,145,146,147,148,149,150,151,152,153,154,155,156,157,158,159,160,161,162,163,164,165,166,167,168,169,170,171,172,173,174,175,176,177,178,179,180,181,182,183,184,185,186,187,188,189,190,191,192,193,194,195,196,197,198,199,200,201,202,203,204,205,206,207,208,209,210,211,212,213,214,215,216,217]),(4,[0,1,4,6,7,8,9,10,13,14,15,16,17,18,19,20,21,22,23,24,25,26,27,28,29,30,31,32,33,34,35,36,37,38,39,40,41,42,43,44,45,46,47,48,49,50,51,52,53,54,55,56,57,58,59,60,61,62,63,64,65,66,67,68,69,70,71,72,73,74,75,76,77,78,79,80,81,82,83,84,85,86,87,88,89,90,91,92,93,94,95,96,97,98,99,100,101,102,103,104,105,106,107,108,109,110,111,112,113,114,115,116,117,118,119,120,121,122,123,124,125,126,127,128,129,130,131,132,133,134,135,136,137,138,139,140,141,142,143,144,145,146,147,148,149,150,151,152,153,154,155,156,157,158,159,160,161,162,163,164,165,166,167,168,169,170,171,172,173,174,175,176,177,178,179,180,181,182,183,184,185,186,187,188,189,190,191,192,193,194,195,196,197,198,199,200,201,202,203,204,205,206,207,208,209,210,211,212,213,214,215,216,217]),(6,[0,1,4,6,7,8,9,10,12,14,15,16,17,18,19,20,21,22,23,24,25,26,27,28,29,30,31,32,33,34,35,36,37,38,39,40,41,42,43,44,45,46,47,48,49,50,51,52,53,54,55,56,57,58,59,60,61,62,63,64,65,66,67,68,69,70,71,72,73,74,75,76,77,78,79,80,81,82,83,84,85,86,87,88,89,90,91,92,93,94,95,96,97,98,99,100,101,102,103,104,105,106,107,108,109,110,111,112,113,114,115,116,117,118,119,120,121,122,123,124,125,126,127,128,129,130,131,132,133,134,135,136,137,138,139,140,141,142,143,144,145,146,147,148,149,150,151,152,153,154,155,156,157,158,159,160,161,162,163,164,165,166,167,168,169,170,171,172,173,174,175,176,177,178,179,180,181,182,183,184,185,186,187,188,189,190,191,192,193,194,195,196,197,198,199,200,201,202,203,204,205,206,207,208,209,210,211,212,213,214,215,216,217]),(8,[0,1,4,6,7,8,9,10,12,13,15,16,17,18,19,20,21,22,23,24,25,26,27,28,29,30,31,32,33,34,35,36,37,38,39,40,41,42,43,44,45,46,47,48,49,50,51,52,53,54,55,56,57,58,59,60,61,62,63,64,65,66,67,68,69,70,71,72,73,74,75,76,77,78,79,80,81,82,83,84,85,86,87,88,89,90,91,92,93,94,95,96,97,98,99,100,101,102,103,104,105,106,107,108,109,110,111,112,113,114,115,116,117,118,119,120,121,122,123,124,125,126,127,128,129,130,131,132,133,134,135,136,137,138,139,140,141,142,143,144,145,146,147,148,149,150,151,152,153,154,155,156,157,158,159,160,161,162,163,164,165,166,167,168,169,170,171,172,173,174,175,176,177,178,179,180,181,182,183,184,185,186,187,188,189,190,191,192,193,194,195,196,197,198,199,200,201,202,203,204,205,206,207,208,209,210,211,212,213,214,215,216,217]),(10,[0,1,4,6,7,8,9,10,12,13,14,16,17,18,19,20,21,22,23,24,25,26,27,28,29,30,31,32,33,34,35,36,37,38,39,40,41,42,43,44,45,46,47,48,49,50,51,52,53,54,55,56,57,58,59,60,61,62,63,64,65,66,67,68,69,70,71,72,73,74,75,76,77,78,79,80,81,82,83,84,85,86,87,88,89,90,91,92,93,94,95,96,97,98,99,100,101,102,103,104,105,106,107,108,109,110,111,112,113,114,115,116,117,118,119,120,121,122,123,124,125,126,127,128,129,130,131,132,133,134,135,136,137,138,139,140,141,142,143,144,145,146,147,148,149,150,151,152,153,154,155,156,157,158,159,160,161,162,163,164,165,166,167,168,169,170,171,172,173,174,175,176,177,178,179,180,181,182,183,184,185,186,187,188,189,190,191,192,193,194,195,196,197,198,199,200,201,202,203,204,205,206,207,208,209,210,211,212,213,214,215,216,217])],[(10,[16,18])],[[0,1,4],[20],[21,22,23,24,25],[5,27],[],[28],[30,31],[32,33,34],[35,36,37],[38,39,40,41,42,43],[45,46,47,48,49,50,51],[7,52,53,54,55,56],[8,58,59,60,61,62,63,64],[],[65,66,67,68],[70,71],[72,73,74,75,76,77,78,79],[80],[82,83,84,85,86,87,88,89,90,91],[10,92,93,94,95,96,97,98,99,100,101,102,103,104],[105],[],[106,107,108,109],[111,112],[113,114,115,116,117,118,119,120],[122,123,124,125,126,127,128,129,130,131],[],[132,133,134,135],[137,138],[139,140,141,142,143,144,145,146,147],[],[148,149,150,151],[153,154],[155,156,157,158,159,160,161,162,163],[164,165],[],[166,167,168],[170,171],[172,173,174,175,176,177,178,179,180],[181,182,183,184,185,186,187,188,189],[16,18,190,191,192,193,194],[19,196,197],[198,199,200,201,202,203,204,205],[17,207,208],[209,210,211,212,213,214,215,216],[5,217]],[[],[],[],[],[],[],[],[],[],[],[],[],[],[],[],[],[],[],[],[],[],[],[],[],[],[],[],[],[],[],[],[],[],[],[],[],[],[],[],[],[16,18]],[(26,[26,2,3],[2,3]),(29,[29],[]),(44,[44],[]),(57,[57],[]),(69,[69],[]),(81,[81,10],[]),(110,[110],[]),(121,[121],[]),(136,[136],[]),(152,[152],[]),(169,[169],[]),(195,[195,16,18,17],[16,18]),(206,[206,18,16],[16,18])],[(26,[26],[]),(29,[29,6],[]),(44,[44],[]),(57,[57,8],[]),(69,[69,9],[]),(81,[81],[]),(110,[110,12],[]),(121,[121],[]),(136,[136,13],[]),(152,[152,14],[]),(169,[169,15,11,3,2],[2,3]),(195,[195],[]),(206,[206],[])],[]⟩
  | 22 => Tab.hints ⟨[[2],[],[0],[0],[],[],[],[],[],[],[],[],[],[],[],[],[3],[],[],[],[],[],[],[],[],[],[],[],[],[],[],[3],[],[3,4]],[[],[],[],[],[],[],[],[],[11],[10],[],[],[],[],[],[3],[4],[],[],[],[],[8],[],[],[],[],[],[],[7],[7],[],[4]],[],[(0,[0,1,4,7,8,9,10,11,12,13,14,15,16,17,18,19,20,21,22,23,24,25,26,27,28,29,30,31,32,33,34,35,36,37,38,39,40,41,42,43,44,45,46,47,48,49,50,51,52,53,54,55,56,57,58,59,60,61,62,63,64,65,66,67,68,69,70,71,72,73,74,75,76,77,78,79,80,81,82,83,84,85,86,87,88,89,90,91,92,93,94,95,96,97,98,99,100,101,102,103,104,105,106,107,108,109,110,111,112,113,114,115,116,117,118,119,120,121,122,123,124,125,126,127,128,129,130,131,132,133,134,135,136,137,138,139,140,141,142,143,144,145,146,147,148,149,150,151,152,153,154]),(2,[0,1,4,6,7,8,9,10,11,12,13,14,15,16,17,18,19,20,21,22,23,24,25,26,27,28,29,30,31,32,33,34,35,36,37,38,39,40,41,42,43,44,45,46,47,48,49,50,51,52,53,54,55,56,57,58,59,60,61,62,66,67,68,69,70,71,72,73,74,75,76,77,78,79,80,81,82,83,84,85,86,87,88,89,90,91,92,93,94,95,96,97,98,99,100,101,102,103,104,105,106,107,108,109,110,111,112,113,114,115,116,117,118,119,120,121,122,123,124,125,126,127,128,129,130,131,132,133,134,135,136,137,138,139,140,141,142,143,144,145,146,147,148,149,150,151,152,153,154]),(4,[0,1,4,6,7,8,9,10,11,12,13,14,15,16,17,18,19,20,21,22,23,24,25,26,27,28,29,30,31,32,33,34,35,36,37,38,39,40,41,42,43,44,45,46,47,48,49,50,51,52,53,54,55,56,57,58,59,60,61,62,63,64,65,66,67,68,69,70,71,72,73,74,75,76,77,78,79,80,81,82,83,84,85,86,87,88,92,93,94,95,96,97,98,99,100,101,102,103,104,105,106,107,108,109,110,111,112,113,114,115,116,117,118,119,120,121,122,123,124,125,126,127,128,129,130,131,132,133,134,135,136,137,138,139,140,141,142,143,144,145,146,147,148,149,150,151,152,153,154]),(6,[0,1,4,6,7,8,9,10,11,12,13,14,15,16,17,18,19,20,21,22,23,24,25,26,27,28,29,30,31,32,33,34,35,36,37,38,39,40,41,42,43,44,45,46,47,48,49,50,51,52,53,54,55,56,57,58,59,60,61,62,63,64,65,66,67,68,69,70,71,72,73,74,75,76,77,78,79,80,81,82,83,84,85,86,87,88,89,90,91,92,93,94,95,96,97,98,99,100,101,102,103,104,105,106,110,111,112,113,114,115,116,117,118,119,120,121,122,123,124,125,126,127,128,129,130,131,132,133,134,135,136,137,138,139,140,141,142,143,144,145,146,147,148,149,150,151,152,153,154])],[(2,[10,11]),(4,[14]),(6,[17,19])],[[0,1,4],[21,22,23,24,25],[],[27,28],[],[29],[31,32],[33,34,35,36,37,38],[39,40,41,42,43,44,45,46,47,48,49,50],[7,8,51,52,53,54,55,56,57,58,59,60,61],[62],[],[67,68],[69,70,71,72,73,74,75],[12,76],[10,78,79,80,81],[10,11,82,83,84,85,86],[87],[88],[],[93,94],[14,95,96,97,98,99,100,101,102,103],[104],[105,106],[],[111,112],[113,114,115,116,117,118],[119,120,121,122,123,124],[125,126,127,128,129,130,131,132],[16,133,134,135,136,137,138,139,140],[18,20,141,142,143],[17,19,145,146,147,148,149],[150],[5,151,152,153,154]],[[],[],[],[28],[],[],[],[],[],[],[],[],[],[],[],[10],[10,11],[],[],[],[],[14],[],[],[],[],[],[],[],[],[],[17,19]],[(26,[26,2,3],[2,3]),(30,[30],[]),(66,[66],[]),(77,[77,11],[11]),(92,[92],[]),(110,[110],[]),(144,[144],[])],[(26,[26],[]),(30,[30,6],[]),(66,[66,65,63,64],[]),(77,[77],[]),(92,[92,91,89,90],[]),(110,[110,109,3,2,107,108],[2,3]),(144,[144,17,19],[17,19])],[]⟩
  | 26 => Tab.hints ⟨[],[],[],[(0,[2,3,4,6,7,8,9,10,11,12,13,14,15,16,17,18,19,20,21,22,23,24,25,26])],[],[[4],[6,7,8,9],[10],[],[],[12,13,14],[16,17],[18,19,20,21,22,23],[24],[],[1,26]],[],[(11,[11,0,1],[]),(15,[15],[]),(25,[25,0,1,5],[])],[(11,[11],[]),(15,[15,0,5],[]),(25,[25],[])],[]⟩
  | 27 => Tab.hints ⟨[],[],[],[(0,[2,3,4,6,7,8,9,10,11,12,13,14,15,16,17,18,19,20,21,22,23,24,25,26])],[],[[4],[6,7,8,9],[10],[],[],[12,13,14],[16,17],[18,19,20,21,22,23],[24],[],[1,26]],[],[(11,[11,0,1],[]),(15,[15],[]),(25,[25,0,1,5],[])],[(11,[11],[]),(15,[15,0,5],[]),(25,[25],[])],[]⟩
  | 31 => Tab.hints ⟨[[0],[3],[],[],[],[],[0,1]],[],[],[(0,[1,2,5,6,7,8,9,10,11,12,13,14,15,16,17,18,19,20,21,22])],[],[[2],[5,6,7],[],[8,9,10],[12,13],[14,15,16,17,18,19,20,21],[3,22]],[[],[7]],[(11,[11],[])],[(11,[11,4,0],[])],[]⟩
  | 32 => Tab.hints ⟨[[0],[3],[],[],[],[],[0,1]],[],[],[(0,[1,2,5,6,7,8,9,10,11,12,13,14,15,16,17,18,19,20,21,22])],[],[[2],[5,6,7],[],[8,9,10],[12,13],[14,15,16,17,18,19,20,21],[3,22]],[[],[7]],[(11,[11],[])],[(11,[11,4,0],[])],[]⟩
  | 37 => Tab.hints ⟨[],[],[],[(0,[2,3,4,6,7,8,9,10,11,12,13,14,15,16,17,18,19,20,21,22,23,24,25,26])],[],[[4],[6,7,8,9],[],[],[11,12,13],[15,16],[17,18,19,20,21,22,23,24,25]],[],[(10,[10,0,1],[]),(14,[14],[]),(26,[26,0,1,5],[])],[(10,[10],[]),(14,[14,0,1,5],[]),(26,[26],[])],[]⟩
  | 38 => Tab.hints ⟨[],[],[],[(0,[2,3,4,6,7,8,9,10,11,12,13,14,15,16,17,18,19,20,21,22,23,24,25,26])],[],[[4],[6,7,8,9],[],[],[11,12,13],[15,16],[17,18,19,20,21,22,23,24,25]],[],[(10,[10,0,1],[]),(14,[14],[]),(26,[26,0,1,5],[])],[(10,[10],[]),(14,[14,0,1,5],[]),(26,[26],[])],[]⟩
  | 45 => Tab.hints ⟨[[0],[1],[],[],[],[],[0,7],[0,1]],[],[],[(0,[2,3,4,7,8,9,10,11,12,13,14,15,16,17,18,19,20,21,22,23,24,25,26,27,28,29])],[],[[4],[7],[],[8,9,10],[12,13],[14,15,16,17,18,19,20],[22,23,24,25,26,27,28],[5,29]],[],[(11,[11],[]),(21,[21],[])],[(11,[11,6,0,1],[]),(21,[21],[])],[]⟩
  | 46 => Tab.hints ⟨[],[],[],[],[],[[0,2],[4,5,6,7,8,9,10,11,12,13,14,15,16,17],[18,19],[1,21,22,23,24,25],[3,26,27]],[[],[],[],[1]],[(20,[20],[])],[(20,[20,1],[1])],[]⟩
  | 47 => Tab.hints ⟨[[1],[0,1,4]],[[],[3]],[[],[3]],[],[],[[1,4],[0,3,5,6,7,8]],[[],[3]],[],[],[(1048578,[4097])]⟩
  | 48 => Tab.hints ⟨[[],[1],[0]],[],[],[],[],[[0,2],[4],[1,3,5,6,7,8,9,10,11,12,13,14,15,16,17,18,19,20,21,22]],[[],[],[1]],[],[],[]⟩
  | 49 => Tab.hints ⟨[],[],[],[(0,[0,2,4,5,6,7,8,9,10,11,12,13,14,15,16,17,18,19,20,21,22,23,24,25,26,27,28,29,30,31,32,33,34,35,36,37,38,39,40]),(2,[0,2,3,5,6,7,8,9,10,11,12,13,14,15,16,17,18,19,20,21,22,23,24,25,26,27,28,29,30,31,32,33,34,35,36,37,38,39,40])],[],[[0,2],[5,6,7,8,9,10,11,12,13],[],[],[15,16,17,18],[20,21],[22,23,24,25,26],[],[],[28,29,30,31],[33,34],[35,36,37,38,39]],[],[(14,[14,1],[1]),(19,[19],[]),(27,[27,1,3],[1]),(32,[32],[]),(40,[40,1,4],[1])],[(14,[14],[]),(19,[19,3],[]),(27,[27],[]),(32,[32,1,4],[1]),(40,[40],[])],[]⟩
  | 50 => Tab.hints ⟨[],[],[],[(0,[0,3,4,6,7,8,9,10,11,12,13,14,15,16,17,18,19,20,21,22,23,24,25,26])],[],[[0,4],[],[6,7,8,9],[11,12],[13,14,15,16,17,18,19],[2,5,21,22,23,24,25,26]],[[],[],[],[],[],[2]],[(10,[10],[]),(20,[20,1],[])],[(10,[10,1,2,5],[2]),(20,[20],[])],[]⟩
  | 51 => Tab.hints ⟨[],[],[],[],[],[[2],[0],[5],[],[7],[],[3,9]],[],[(4,[4,3],[]),(6,[6,3],[]),(8,[8],[])],[(4,[4],[]),(6,[6],[]),(8,[8],[])],[]⟩
  | 52 => Tab.hints ⟨[],[],[],[(0,[0,3,4,6,7,8,9,10,11,12,13,14,15,16,17,18,19,20,21,22,23,24,25,26,27])],[],[[0,4],[],[6,7,8,9,10,11,12,13,14,15],[17,18],[19,20,21,22,23,24,25],[5,27]],[],[(16,[16],[]),(26,[26,2,1],[2])],[(16,[16,2,1,5],[2]),(26,[26],[])],[]⟩
  | 53 => Tab.hints ⟨[[2],[1],[],[0,6],[],[],[],[],[0,5],[],[],[],[0,6,8],[0,3,5],[],[0,6,8],[],[0,3,5,6,8],[],[0,6,8],[],[0,6,8],[],[0,5],[],[0,5],[0,6,8],[0,1]],[],[],[],[],[[0,1,4],[7],[8,9,10,11],[2,5,13,14,15,16,17,18],[19,20],[21,22],[24,25,26],[27,28,29,30],[32,33,34,35,36],[37],[40],[41],[6,38,39,42,43,44,45,46,47,48,49],[2,3,50,51,52,53,54],[56],[2,3,6,57,58,59,60,61,62,63,64],[66],[2,3,6,67,68,69,70,71,72,73,74],[76],[2,3,6,77,78,79,80,81,82,83,84],[38,86],[87,88,89,90,91,92,93,94],[95,96,97,98,99,100],[102,103,104,105,106],[107,108,109,110,111,112],[114,115,116,117,118],[2,3,6,119,120,121,122,123,124,125,126],[5,127]],[[],[],[],[2],[],[],[],[],[],[],[],[],[],[2,3],[],[2,3],[],[2,3],[],[2,3],[],[],[],[],[],[],[2,3]],[(12,[12,3],[3]),(23,[23,6],[]),(31,[31],[]),(39,[],[]),(55,[55,38],[]),(65,[65,38],[]),(75,[75,38],[]),(85,[85],[]),(101,[101],[]),(113,[113],[])],[(12,[12],[]),(23,[23],[]),(31,[31],[]),(39,[39],[]),(55,[55],[]),(65,[65],[]),(75,[75],[]),(85,[85,6,2,3],[2,3]),(101,[101],[]),(113,[113],[])],[]⟩
  | 54 => Tab.hints ⟨[[0],[],[1,3],[5,6],[1,5,6],[1],[],[],[],[],[],[],[],[],[],[],[0,4],[0,1]],[],[],[(0,[0,1,2,8,9,10,11,12,13,14,15,16,17,18,19,20,21,22,23,24,25,26,27,28,29,30,31,32,33,34,35,36,37,38,39,40,41,42,43,44,45,46,47,48,49,50,51,52,53,54,55,56,57,58,59,60,61,62,63,64,65,66,67,68,69,70,71,72,73,74,75,76,77,78,79,80,81,82,83,84,85,86,87,88])],[],[[2],[9,10],[0,12,13,14],[15,16,17,18,19,20],[0,21,22,23,24,25,26],[27],[],[],[28,29,30,31,32,33,34,35,36],[8],[38,39,40,41,42,43,44,45,46,47,48,49,50,51,52,53,54,55,56,57],[59,60,61,62],[63,64],[65,66,67,68],[69,70],[71,72,73,74,75,76,77,78,79,80,81,82],[8,84,85,86,87],[5,88]],[],[(11,[11],[]),(37,[37],[]),(58,[58],[]),(83,[83],[])],[(11,[11],[]),(37,[37,6,3,4,7],[]),(58,[58],[]),(83,[83,8],[])],[]⟩
  | 55 => Tab.hints ⟨[[],[],[],[],[],[],[0,1],[],[],[],[],[0],[0]],[],[],[(0,[0,3,5,7,8,9,10,11,12,13,14,15,16,17,18,19,20,21,22,23,24,25,26,27,28,29,30,31,32,33,34,35,36,37,38,39,40,41,42,43,44,45,46,47,48,49,50,51,52,53]),(2,[0,2,3,5,6,9,10,11,12,13,14,15,16,17,18,19,20,21,22,23,24,25,26,27,28,29,30,31,32,33,34,35,36,37,38,39,40,41,42,43,44,45,46,47,48,49,50,51,52,53])],[],[[0,5],[],[9,10,11,12,13,14,15,16,17,18],[20,21],[22,23,24,25,26,27,28],[2,6,30,31,32,33,34],[35],[],[36,37,38],[40,41],[42,43,44,45,46,47],[7,8,49,50,51,52],[53]],[[],[],[],[],[],[2]],[(19,[19],[]),(29,[29,1],[]),(39,[39],[]),(48,[48,1],[])],[(19,[19,2,6],[2]),(29,[29],[]),(39,[39,1,7,8],[]),(48,[48],[])],[]⟩
  | 56 => Tab.hints ⟨[],[[],[13,18]],[],[],[],[[0,2],[1,3,4,5,6,7,8,9,10,11,12,13,14,15,16,17,18,19,20,21,22]],[[],[1]],[],[],[]⟩
  | 57 => Tab.hints ⟨[],[],[],[(0,[0,2,3,4,5,6,7,11,12,13,14,15,16,17,18,19,20])],[(0,[6])],[[0,4],[2,7],[],[12,13],[14,15,16],[6,18,19],[20]],[[],[2],[],[],[],[6]],[(11,[11],[]),(17,[17,9,8,1,10],[])],[(11,[11,9,8,1,10],[]),(17,[17,6],[6])],[]⟩
  | 58 => Tab.hints ⟨[[],[4]],[],[],[],[],[[1],[0,2,3,4,11,12,13,14,15,16,17,18,19,20,21,22,23]],[],[(10,[10],[])],[(10,[10,0,2,3,4],[])],[]⟩
  | 59 => Tab.hints ⟨[[],[1],[],[],[0]],[],[],[],[],[[2],[4],[5,6,7,8,9],[],[0,3,11,12,13,14]],[],[(10,[10,0,3],[])],[(10,[10],[])],[]⟩
  | 60 => Tab.hints ⟨[[],[],[],[0]],[],[],[],[],[[0,5],[1,7,8,9],[10],[12],[2,6,13,14,15,16,17]],[[],[],[],[],[2]],[(11,[11,6,2],[2])],[(11,[11],[])],[]⟩
  | 61 => Tab.hints ⟨[[4,5]],[],[],[],[],[[0,1,4,5,6,7,8,9,10,11,12]],[],[],[],[]⟩
  | 62 => Tab.hints ⟨[[2],[0],[],[],[],[3,4],[],[],[],[],[],[],[6],[3],[],[6],[],[4,7,8],[],[6],[],[6],[],[],[6],[3,4]],[[],[],[],[],[2],[],[],[],[7],[],[],[],[7],[4],[],[7],[],[9],[],[7],[],[7],[9],[9],[7]],[],[],[],[[0,1,4],[7,8],[9,10],[11,12,13,14],[6,16,17,18],[5,19,20,21,22],[23,24],[26,27],[28,29,30,31,32,33,34,35],[36],[39],[40],[6,37,38,41,42,43,44,45,46,47,48],[2,3,49,50,51,52,53],[55],[2,3,6,56,57,58,59,60,61,62,63],[65],[2,3,6,66,67,68,69,70,71,72,73,74,75],[77],[2,3,6,78,79,80,81,82,83,84,85],[37,87],[88,89,90,91,92,93,94,95],[96,97,98,99,100,101,102,103,104,105],[106,107,108,109,110,111,112,113,114,115],[2,3,6,116,117,118,119,120,121,122,123],[5,124,125,126,127]],[[],[8],[],[],[],[],[],[],[],[],[],[],[],[2,3],[],[2,3],[],[2,3],[],[2,3],[],[],[],[],[2,3]],[(15,[15,3,2],[2,3]),(25,[25],[]),(38,[],[]),(54,[54,37],[]),(64,[64,37],[]),(76,[76,37],[]),(86,[86],[])],[(15,[15],[]),(25,[25],[]),(38,[38],[]),(54,[54],[]),(64,[64],[]),(76,[76],[]),(86,[86,6,2,3],[2,3])],[]⟩
  | 63 => Tab.hints ⟨[],[],[],[],[],[[0,4],[1,2,5,6,7,8]],[[],[2]],[],[],[]⟩
  | 64 => Tab.hints ⟨[[2],[1],[2],[],[],[0,5],[],[],[0,1,2]],[[],[],[],[],[],[],[],[1],[1]],[],[(0,[0,1,2,3,4,6,7,8,9,10,11,12,13,17,18,19,20,21,22,23,24,25,26,27,28,29])],[(0,[7])],[[0,1,4],[8],[2,3,9,10,11,12,13],[],[18,19],[7,20,21,22,23,24],[25],[26,27],[5,28,29]],[],[(17,[17],[])],[(17,[17,16,14,15],[])],[(2,[8197]),(4194311,[16389]),(1048581,[4097]),(1048585,[73729])]⟩
  | 65 => Tab.hints ⟨[[],[],[],[],[0,1],[],[],[0],[0]],[],[],[],[],[[0,5],[9,10,11,12],[13],[2,6,15,16,17,18,19],[20],[1,21,22,23],[24],[7,8,26,27,28,29],[30]],[[],[],[],[2]],[(14,[14,1],[]),(25,[25],[])],[(14,[14,2,6],[2]),(25,[25,7,8],[])],[]⟩
  | 67 => Tab.hints ⟨[],[],[],[],[],[[0,4],[5,6,7,8,9],[10],[],[12,13,14,15,16],[17],[],[19,20,21,22],[23],[],[25,26,27,28],[29],[],[31,32,33,34],[35],[],[37,38,39,40],[41],[],[43,44,45,46],[47],[],[2,49,50,51,52],[53],[],[1,55]],[[],[],[],[],[],[],[],[],[],[],[],[],[],[],[],[],[],[],[],[],[],[],[2]],[(11,[11,2,1],[2]),(18,[18,2,1],[2]),(24,[24,2,1],[2]),(30,[30,2,1],[2]),(36,[36,2,1],[2]),(42,[42,2,1],[2]),(48,[48,1,2],[2]),(54,[54,1],[])],[(11,[11],[]),(18,[18],[]),(24,[24],[]),(30,[30],[]),(36,[36],[]),(42,[42],[]),(48,[48],[]),(54,[54],[])],[]⟩
  | 68 => Tab.hints ⟨[],[],[],[],[],[[0,4],[2,5,6,7,8,9],[10],[],[1,12]],[[],[2]],[(11,[11,1],[])],[(11,[11],[])],[]⟩
  | 69 => Tab.hints ⟨[],[],[],[(0,[2,3,4,6,7,8,9,10,11,12,13,14,15,16,17,18,19,20,21,22,23,24,25,26])],[],[[4],[6,7,8,9],[10],[],[],[12,13,14],[16,17],[18,19,20,21,22,23],[24],[],[1,26]],[],[(11,[11,0,1],[]),(15,[15],[]),(25,[25,0,1,5],[])],[(11,[11],[]),(15,[15,0,5],[]),(25,[25],[])],[]⟩
  | 70 => Tab.hints ⟨[],[],[],[(0,[2,3,4,6,7,8,9,10,11,12,13,14,15,16,17,18,19,20,21,22,23,24,25,26])],[],[[4],[6,7,8,9],[10],[],[],[12,13,14],[16,17],[18,19,20,21,22,23],[24],[],[1,26]],[],[(11,[11,0,1],[]),(15,[15],[]),(25,[25,0,1,5],[])],[(11,[11],[]),(15,[15,0,5],[]),(25,[25],[])],[]⟩
  | 76 => Tab.hints ⟨[],[],[],[],[],[[0],[],[4,5,6],[7,8,9],[10,11,12],[13,14,15],[16,17,18,19],[20,21,22,23],[24,25,26,27],[28,29,30,31],[32,33,34,35],[36,37,38],[1,39,40,41,42],[3,43]],[[],[],[],[],[],[],[],[],[],[],[],[],[1],[3]],[],[],[]⟩
  | 77 => Tab.hints ⟨[],[],[],[],[],[[0],[],[4,5,6],[1,7,8,9],[3,10]],[[],[],[],[1],[3]],[],[],[]⟩
  | 78 => Tab.hints ⟨[[0],[3],[],[],[],[],[0,1]],[],[],[(0,[1,2,5,6,7,8,9,10,11,12,13,14,15,16,17,18,19,20,21,22])],[],[[2],[5,6,7],[],[8,9,10],[12,13],[14,15,16,17,18,19,20,21],[3,22]],[[],[7]],[(11,[11],[])],[(11,[11,4,0],[])],[]⟩
  | 79 => Tab.hints ⟨[[0],[3],[],[],[],[],[0,1]],[],[],[(0,[1,2,5,6,7,8,9,10,11,12,13,14,15,16,17,18,19,20,21,22])],[],[[2],[5,6,7],[],[8,9,10],[12,13],[14,15,16,17,18,19,20,21],[3,22]],[[],[7]],[(11,[11],[])],[(11,[11,4,0],[])],[]⟩
  | 88 => Tab.hints ⟨[],[],[],[],[],[[0,1,4],[5,6,7,8],[],[10,11,12,13],[],[15,16,17,18],[],[20,21,22,23],[],[25,26,27,28,29],[],[31,32,33,34,35],[],[37,38,39,40,41],[],[43,44,45,46,47],[],[49,50,51,52,53],[],[55,56,57,58],[],[2,3,60,61,62,63,64]],[[],[],[],[],[],[],[],[],[],[],[],[],[],[],[],[],[],[],[],[],[],[2,3]],[(9,[9,2,3],[2,3]),(14,[14,3,2],[2,3]),(19,[19,2,3],[2,3]),(24,[24,3,2],[2,3]),(30,[30,2,3],[2,3]),(36,[36,3,2],[2,3]),(42,[42,2,3],[2,3]),(48,[48,3,2],[2,3]),(54,[54,2,3],[2,3]),(59,[59,3,2],[2,3]),(65,[65],[])],[(9,[9],[]),(14,[14],[]),(19,[19],[]),(24,[24],[]),(30,[30],[]),(36,[36],[]),(42,[42],[]),(48,[48],[]),(54,[54],[]),(59,[59],[]),(65,[65],[])],[]⟩
  | 89 => Tab.hints ⟨[],[],[],[],[],[[0,1,4],[5,6,7,8],[],[2,3,10,11,12,13]],[[],[],[],[2,3]],[(9,[9,3,2],[2,3]),(14,[14],[])],[(9,[9],[]),(14,[14],[])],[]⟩
  | 90 => Tab.hints ⟨[],[],[],[(0,[2,3,4,6,7,8,9,10,11,12,13,14,15,16,17,18,19,20,21,22,23,24,25,26])],[],[[4],[6,7,8,9],[],[],[11,12,13],[15,16],[17,18,19,20,21,22,23,24,25]],[],[(10,[10,0,1],[]),(14,[14],[]),(26,[26,0,1,5],[])],[(10,[10],[]),(14,[14,0,1,5],[]),(26,[26],[])],[]⟩
  | 91 => Tab.hints ⟨[],[],[],[(0,[2,3,4,6,7,8,9,10,11,12,13,14,15,16,17,18,19,20,21,22,23,24,25,26])],[],[[4],[6,7,8,9],[],[],[11,12,13],[15,16],[17,18,19,20,21,22,23,24,25]],[],[(10,[10,0,1],[]),(14,[14],[]),(26,[26,0,1,5],[])],[(10,[10],[]),(14,[14,0,1,5],[]),(26,[26],[])],[]⟩
  | 97 => Tab.hints ⟨[],[],[],[],[],[[2],[4,5,6],[],[8,9],[],[0,11,12]],[],[(3,[3,0],[]),(7,[7,0],[]),(10,[10],[])],[(3,[3],[]),(7,[7],[]),(10,[10],[])],[]⟩
  | 98 => Tab.hints ⟨[],[],[],[],[],[[2],[3,4],[],[0,6,7,8,9]],[],[(5,[5,0],[])],[(5,[5],[])],[]⟩
  | 99 => Tab.hints ⟨[[0],[],[],[0,1],[],[],[],[],[],[],[],[],[0,3]],[[],[2],[],[],[],[],[],[],[2]],[],[(0,[2,3,4,7,8,9,10,11,12,13,14,15,16,17,18,19,20,21,22,23,24,25,26,27,28,29,30,31,32,33,34,35,36,37,38,39,40,41])],[(0,[7])],[[4],[8,9,10],[11],[0,13],[14,15],[16,17,18],[20,21],[22,23,24,25],[26,27,28],[7,30,31,32,33],[34,35],[36,37,38],[0,5,39,40,41]],[],[(12,[12,1,5],[]),(19,[19],[]),(29,[29],[])],[(12,[12],[]),(19,[19,6,1],[]),(29,[29,7],[])],[(1048576,[24576]),(1048584,[4099])]⟩
  | 102 => Tab.hints ⟨[],[],[],[],[],[[2],[4,5],[],[7,8],[],[0,10,11]],[],[(3,[3,0],[]),(6,[6,0],[]),(9,[9],[])],[(3,[3],[]),(6,[6],[]),(9,[9],[])],[]⟩
  | 103 => Tab.hints ⟨[[],[1],[],[],[0]],[],[],[],[],[[2],[4],[5,6,7,8],[],[0,3,10,11,12,13,14]],[],[(9,[9,0,3],[])],[(9,[9],[])],[]⟩
  | 104 => Tab.hints ⟨[],[],[],[],[],[[4],[5],[0,7],[0,1,8,9,10,11]],[],[(6,[6,1],[])],[(6,[6],[])],[]⟩
  | 105 => Tab.hints ⟨[],[],[],[(0,[0,2,4,5,6,7,8,9,10,11,12,13,14,15,16,17,18,19,20,21,22,23,24,25,26,27,28,29,30,31,32,33,34,35,36,37,38,39,40])],[],[[0,2],[],[4,5,6,7],[9,10],[11,12,13,14,15,16,17],[],[1,19,20,21,22,23,24,25,26,27,28,29,30,31,32,33,34,35,36,37,38,39,40]],[[],[],[],[],[],[],[1]],[(8,[8],[]),(18,[18,1,3],[1])],[(8,[8,3],[]),(18,[18],[])],[]⟩
  | 106 => Tab.hints ⟨[[0],[1],[1,2],[1,2],[],[],[],[],[0,10],[],[],[],[],[0,10],[0,1]],[],[],[(0,[5,6,7,8,9,10,15,16,17,18,19,20,21,22,23,24,25,26,27,28,29,30,31,32,33,34,35,36,37,38,39,40,41,42,43,44,45,46,47,48,49,50,51,52,53,54,55,56,57,58,59,60,61,62,63,64,65,66,67]),(2,[1,3,5,6,7,8,9,10,13,14,16,17,18,19,20,21,22,23,24,25,26,27,28,29,30,31,32,33,34,35,36,37,38,39,40,41,42,43,44,45,46,47,48,49,50,51,52,53,54,55,56,57,58,59,60,61,62,63,64,65,66,67])],[],[[10],[16],[17,18],[19,20],[],[21,22,23],[25,26],[27,28,29,30,31,32],[34,35,36,37,38,39,40,41,42,43],[],[44,45,46],[48,49],[50,51,52,53,54,55],[57,58,59,60,61,62,63,64,65,66],[11,67]],[],[(24,[24],[]),(33,[33],[]),(47,[47],[]),(56,[56],[])],[(24,[24,14,1,3,13],[]),(33,[33],[]),(47,[47,15,2,0,4,12],[]),(56,[56],[])],[]⟩
  | 107 => Tab.hints ⟨[[2],[1],[],[],[],[],[],[],[0,8],[],[0,8],[0,15,17],[],[],[],[],[0,12],[0,1]],[],[],[(0,[0,1,4,7,8,9,10,11,12,13,14,15,16,17,18,19,20,21,22,23,24,25,26,27,28,29,30,31,32,33,34,35,36,37,38,39,40,41,42,43,44,45,46,47,48,49,50,51,52,53,54,55,56,57,58,59,60,61,62,63,64,65,66,67,68,69,70,71,72,73,74,75,76,77,78,79,80,81,82,83,84,85,86,87,88,89,90,91,92,93,94,95,96,97,98,99,100,101]),(2,[0,1,4,6,7,8,10,11,12,13,14,15,16,17,18,19,20,21,22,23,24,25,26,27,28,29,30,31,32,33,34,35,36,37,38,39,40,41,42,43,44,45,46,47,48,49,50,51,52,53,54,55,56,57,58,59,60,61,62,63,64,65,66,67,68,69,70,71,72,73,74,75,76,77,78,79,80,81,82,83,84,85,86,87,88,89,90,91,92,93,94,95,96,97,98,99,100,101])],[(0,[7])],[[0,1,4],[10],[],[11,12,13,14],[16,17],[18,19,20,21,22],[23,24,25,26,27],[28],[7,30,31,32,33,34,35,36,37],[38,39,40,41,42,43,44,45],[47,48,49,50,51,52,53,54],[7,8,55,56,57,58,59,60,61,62,63,64,65,66,67,68,69,70,71],[],[72,73,74,75],[77,78],[79,80,81,82,83,84,85,86,87],[89,90,91,92,93,94,95,96,97,98,99,100],[5,101]],[[],[],[],[],[],[],[],[],[7],[],[],[7]],[(15,[15],[]),(29,[29,8],[]),(46,[46],[]),(76,[76],[]),(88,[88],[])],[(15,[15,6],[]),(29,[29],[]),(46,[46],[]),(76,[76,9,3,2],[2,3]),(88,[88],[])],[]⟩
  | 108 => Tab.hints ⟨[[1],[1],[],[],[],[0,9],[0,1]],[],[],[(0,[0,2,5,6,7,8,9,10,11,12,13,14,15,16,17,18,19,20,21,22])],[],[[0,2],[5],[],[6,7,8,9],[11,12],[13,14,15,16,17,18,19,20,21],[3,22]],[],[(10,[10],[])],[(10,[10,4,1],[1])],[]⟩
  | 109 => Tab.hints ⟨[[0],[1],[],[],[],[],[],[],[0,7],[],[],[],[],[],[0,8],[],[0,7],[],[0,7],[],[],[],[],[],[],[],[0,11],[0,1]],[],[],[(0,[3,4,5,6,9,10,11,12,13,14,15,16,17,18,19,20,21,22,23,24,25,26,27,28,29,30,31,32,33,34,35,36,37,38,39,40,41,42,43,44,45,46,47,48,49,50,51,52,53,54,55,56,57,58,59,60,61,62,63,64,65,66,67,68,69,70,71,72,73,74,75,76,77,78,79,80,81,82,83,84,85,86,87,88,89,90,91,92,93,94,95,96,97,98,99,100,101,102,103,104,105,106,107,108,109,110,111,112,113,114,115,116,117,118,119,120,121,122,123,124,125,126,127,128,129,130,131,132,133,134,135,136,137,138,139,140,141]),(3,[3,4,5,6,8,9,10,11,12,14,15,16,17,18,19,20,21,22,23,24,25,26,27,28,29,30,31,32,33,34,35,36,37,38,39,40,41,42,43,44,45,46,47,48,49,50,51,52,53,54,55,56,57,58,59,60,61,62,63,64,65,66,67,68,69,70,71,72,73,74,75,76,77,78,79,80,81,82,83,84,85,86,87,88,89,90,91,92,93,94,95,96,97,98,99,100,101,102,103,104,105,106,107,108,109,110,111,112,113,114,115,116,117,118,119,120,121,122,123,124,125,126,127,128,129,130,131,132,133,134,135,136,137,138,139,140,141])],[(0,[9,11])],[[6],[15],[],[16,17,18],[20,21],[22,23,24,25],[26,27,28,29],[30],[9,32,33,34,35,36,37,38],[10,39,40,41,42],[43,44,45,46],[],[48,49,50,51],[],[12,53,54,55,56,57,58,59,60],[62,63,64,65,66,67,68,69,70,71,72,73],[9,74,75,76,77,78,79,80],[11,82,83,84,85,86,87,88,89,90,91,92,93,94],[9,95,96,97,98,99,100,101],[],[102,103,104],[106,107],[108,109,110,111,112,113,114],[],[116,117,118,119,120,121,122,123,124,125,126,127,128],[],[14,130,131,132,133,134,135,136,137,138,139,140],[7,141]],[[],[],[],[],[],[],[],[],[9],[],[],[],[],[],[],[],[9],[11],[9]],[(19,[19],[]),(31,[31,10],[]),(47,[47],[]),(52,[52,12],[]),(61,[61,11],[11]),(81,[81],[]),(105,[105],[]),(115,[115],[]),(129,[129,14],[])],[(19,[19,8],[]),(31,[31],[]),(47,[47],[]),(52,[52],[]),(61,[61],[]),(81,[81,9],[9]),(105,[105,13,0,2,1],[]),(115,[115],[]),(129,[129],[])],[]⟩
  | 110 => Tab.hints ⟨[[0],[5],[4]],[],[],[],[],[[0],[2,3,4,5,6,7],[1,8,9,10,11]],[[],[],[1]],[],[],[]⟩
  | 111 => Tab.hints ⟨[[],[0]],[[],[2]],[],[],[],[[4],[0,1,5,6,7,8]],[],[],[],[]⟩
  | 112 => Tab.hints ⟨[],[[],[],[],[2]],[],[],[],[[0,2],[3,4,5,6,7,8,9,10,11,12,13,14,15,16,17,18,19,20,21,22,23],[],[1,25,26,27]],[[],[],[],[1]],[(24,[24,1],[1])],[(24,[24],[])],[]⟩
  | 113 => Tab.hints ⟨[],[],[],[],[],[[6],[0,1,2,7,8,9,10,11,12,13,14]],[],[],[],[]⟩
  | 114 => Tab.hints ⟨[[0],[0],[],[],[],[],[],[0],[],[],[],[],[3,4]],[[],[],[],[],[],[8],[],[],[],[],[8]],[],[(0,[5,6,7,8,9,10,12,13,14,15,16,17,21,22,23,24,25,26,27,28,29,30,31,32,33,34,35,36,37,38,39,40,41,42,43,44,45,46,47,48,49,50,51,52,53]),(2,[2,3,5,6,7,8,9,10,12,13,14,15,16,17,18,19,20,21,22,23,24,25,26,27,28,29,30,31,32,33,37,38,39,40,41,42,43,44,45,46,47,48,49,50,51,52,53])],[],[[10],[16,17],[],[],[22,23],[13,24,25,26,27,28,29,30,31,32],[33],[2],[],[38,39],[15,40,41,42,43,44,45,46,47,48],[49],[11,50,51,52,53]],[[],[17]],[(21,[21],[]),(37,[37],[])],[(21,[21,20,3,18,19],[]),(37,[37,36,0,4,1,34,35],[])],[]⟩
  | 115 => Tab.hints ⟨[[2],[0],[],[],[],[],[],[],[],[11],[],[],[],[],[],[],[],[3,4]],[[],[],[],[],[],[],[],[5],[10],[12],[],[],[],[],[],[7]],[],[(0,[0,1,4,6,7,8,9,10,11,12,13,14,15,16,20,21,22,23,24,25,26,27,28,29,30,31,32,33,34,35,36,37,38,39,40,41,42,43,44,45,46,47,48,49,50,51,52,53,54,55,56,57,58,59,60,61,62,63,64,65,66,67,68,69,70,71,72,73,74,75,76,77,78,79,80,81,82,83,84,85,86,87,88,89]),(2,[0,1,3,4,6,7,8,9,10,11,12,13,14,15,16,17,18,19,20,21,22,23,24,25,26,27,28,29,30,31,32,33,34,35,36,37,38,39,40,41,42,43,44,45,46,47,48,49,50,51,52,53,54,55,56,57,58,59,60,61,62,63,67,68,69,70,71,72,73,74,75,76,77,78,79,80,81,82,83,84,85,86,87,88,89])],[(0,[7,8]),(2,[11,12])],[[0,1,4],[14,15],[16],[],[21,22],[23,24,25,26,27,28,29],[9,30],[7,32,33,34,35,36,37],[38,39,40,41,42,43,44,45,46,47,48],[7,8,49,50,51,52,53,54,55,56,57,58,59,60,61],[62],[3,63],[],[68,69],[12,70,71,72,73,74,75,76],[11,13,77,78,79,80,81,82,83,84],[85],[5,86,87,88,89]],[[],[15],[],[],[],[],[],[7],[],[7,8],[],[3],[],[],[12],[11]],[(20,[20],[]),(31,[31,8],[8]),(67,[67],[])],[(20,[20,19,17,18],[]),(31,[31],[]),(67,[67,66,2,64,65],[2])],[]⟩
  | 116 => Tab.hints ⟨[[0],[1],[0],[],[],[0,5],[],[0,1]],[],[],[(0,[0,1,2,4,5,6,10,11,12,13,14,15,16,17,18,19])],[(0,[5])],[[2],[6],[0],[],[11,12],[5,13,14,15,16,17],[18],[3,19]],[[],[],[],[],[],[5]],[(10,[10],[])],[(10,[10,9,7,8],[])],[]⟩
  | 117 => Tab.hints ⟨[[0],[0],[],[],[],[],[],[],[],[],[],[],[],[],[],[],[0],[],[],[],[],[],[],[],[3,4]],[[],[],[],[],[],[],[],[4],[],[],[13],[12],[],[5],[21],[],[],[],[],[],[],[5],[6]],[],[(0,[3,4,5,6,8,9,10,11,12,13,14,15,16,17,18,22,23,24,25,26,27,28,29,30,31,32,33,34,35,36,37,38,39,40,41,42,43,44,45,46,47,48,49,50,51,52,53,54,55,56,57,58,59,60,61,62,63,64,65,66,67,68,69,70,71,72,73,74,75,76,77,78,79,80,81,82,83,84,85,86,87,88,89,90,91,92,93,94,95,96,97,98,99,100,101,102,103,104,105,106,107,108,109,110,111,112,113,114,115,116,117,118,119,120,121,122,123,124,125,126,127,128,129,130,131,132,133,134,135,136,137,138,139,140,141,142,143,144,145,146,147,148,149]),(2,[2,3,4,5,6,8,9,10,11,12,13,14,15,16,17,18,19,20,21,22,23,24,25,26,27,28,29,30,31,32,33,34,35,36,37,38,39,40,41,42,43,44,45,46,47,48,49,50,51,52,53,54,55,56,57,58,59,60,61,62,63,64,65,66,67,68,69,70,71,72,73,74,75,76,77,78,79,80,81,82,83,84,85,86,87,88,89,90,91,92,93,94,95,96,97,98,99,100,101,102,103,104,105,106,107,108,109,110,111,112,116,117,118,119,120,121,122,123,124,125,126,127,128,129,130,131,132,133,134,135,136,137,138,139,140,141,142,143,144,145,146,147,148,149])],[(0,[9,11]),(2,[15])],[[6],[17,18],[],[],[23,24],[25,26,27,28],[29],[9,31,32,33,34,35],[10,36,37,38,39],[40,41,42,43,44],[45,46,47,48,49,50,51,52,53,54,55,56,57,58],[12,59,60,61,62,63,64,65,66,67,68,69,70,71],[72,73,74,75,76,77,78,79,80,81,82,83],[84,85,86,87,88,89],[9,11,13,90,91,92,93,94,95,96,97,98,99,100,101,102,103,104,105,106,107,108,109,110,111],[112],[2],[],[117,118],[119,120,121,122],[124,125,126,127,128,129,130,131],[132,133,134,135,136,137],[15,16,138,139,140,141,142,143,144],[145],[7,146,147,148,149]],[[],[18],[],[],[],[],[],[9],[],[],[],[],[],[],[9,11],[],[],[],[],[],[],[],[15]],[(22,[22],[]),(30,[30,10],[]),(116,[116],[]),(123,[123,15],[15])],[(22,[22,21,19,20],[]),(30,[30],[]),(116,[116,115,0,1,113,114],[]),(123,[123],[])],[]⟩
  | 118 => Tab.hints ⟨[[],[],[],[0]],[[],[],[],[2]],[],[],[],[[1,4],[5,6],[],[0,3,8,9,10]],[[],[],[],[3]],[(7,[7,3,0],[3])],[(7,[7],[])],[]⟩
  | 122 => Tab.hints ⟨[[0],[2],[5],[],[],[],[1],[0,8],[],[0,1]],[],[],[(0,[0,1,3,4,5,6,7,8,9,10,11,12,13,17,18,19,20,21,22,23,24,25,26,27,28,29,30,31])],[(0,[5])],[[0],[6,7,8],[1,9,10,11,12,13],[],[],[18,19],[20,21],[4,5,22,23,24,25,26,27,28,29],[30],[2,31]],[[],[],[1],[],[],[],[],[5]],[(17,[17],[])],[(17,[17,16,14,15],[])],[]⟩
  | 123 => Tab.hints ⟨[],[],[],[(0,[2,3,4,6,7,8,9,10,11,12,13,14,15,16,17,18,19,20,21,22,23,24,25,26,27])],[],[[4],[6,7,8,9],[10],[],[],[12,13,14],[16,17],[18,19,20,21,22,23,24],[25],[],[1,27]],[],[(11,[11,1,0],[]),(15,[15],[]),(26,[26,1,0,5],[])],[(11,[11],[]),(15,[15,0,5],[]),(26,[26],[])],[]⟩
  | 124 => Tab.hints ⟨[],[],[],[(0,[2,3,4,6,7,8,9,10,11,12,13,14,15,16,17,18,19,20,21,22,23,24,25,26])],[],[[4],[6,7,8,9],[10],[],[],[12,13,14],[16,17],[18,19,20,21,22,23],[24],[],[1,26]],[],[(11,[11,0,1],[]),(15,[15],[]),(25,[25,0,1,5],[])],[(11,[11],[]),(15,[15,0,5],[]),(25,[25],[])],[]⟩
  | 125 => Tab.hints ⟨[],[],[],[(0,[2,3,4,6,7,8,9,10,11,12,13,14,15,16,17,18,19,20,21,22,23,24,25,26])],[],[[4],[6,7,8,9],[10],[],[],[12,13,14],[16,17],[18,19,20,21,22,23],[24],[],[1,26]],[],[(11,[11,0,1],[]),(15,[15],[]),(25,[25,0,1,5],[])],[(11,[11],[]),(15,[15,0,5],[]),(25,[25],[])],[]⟩
  | 126 => Tab.hints ⟨[],[],[],[(0,[2,3,4,6,7,8,9,10,11,12,13,14,15,16,17,18,19,20,21,22,23,24,25,26])],[],[[4],[6,7,8,9],[10],[],[],[12,13,14],[16,17],[18,19,20,21,22,23],[24],[],[1,26]],[],[(11,[11,0,1],[]),(15,[15],[]),(25,[25,0,1,5],[])],[(11,[11],[]),(15,[15,0,5],[]),(25,[25],[])],[]⟩
  | 127 => Tab.hints ⟨[],[],[],[],[],[[0,4],[5,6,7,8,9],[10],[],[2,12,13,14,15],[16],[],[1,18]],[[],[],[],[],[2]],[(11,[11,1,2],[2]),(17,[17,1],[])],[(11,[11],[]),(17,[17],[])],[]⟩
  | 128 => Tab.hints ⟨[],[],[],[],[],[[0,4],[5,6,7,8,9],[10],[],[2,12,13,14,15],[16],[],[1,18]],[[],[],[],[],[2]],[(11,[11,1,2],[2]),(17,[17,1],[])],[(11,[11],[]),(17,[17],[])],[]⟩
  | 132 => Tab.hints ⟨[[0],[3],[],[],[],[],[0,1]],[],[],[(0,[1,2,5,6,7,8,9,10,11,12,13,14,15,16,17,18,19,20,21])],[],[[2],[5,6,7],[],[8,9,10],[12,13],[14,15,16,17,18,19,20],[3,21]],[[],[7]],[(11,[11],[])],[(11,[11,4,0],[])],[]⟩
  | 133 => Tab.hints ⟨[[0],[3],[],[],[],[],[0,1]],[],[],[(0,[1,2,5,6,7,8,9,10,11,12,13,14,15,16,17,18,19,20,21,22])],[],[[2],[5,6,7],[],[8,9,10],[12,13],[14,15,16,17,18,19,20,21],[3,22]],[[],[7]],[(11,[11],[])],[(11,[11,4,0],[])],[]⟩
  | 134 => Tab.hints ⟨[[0],[3],[],[],[],[],[0,1]],[],[],[(0,[1,2,5,6,7,8,9,10,11,12,13,14,15,16,17,18,19,20,21,22])],[],[[2],[5,6,7],[],[8,9,10],[12,13],[14,15,16,17,18,19,20,21],[3,22]],[[],[7]],[(11,[11],[])],[(11,[11,4,0],[])],[]⟩
  | 135 => Tab.hints ⟨[[0],[3],[],[],[],[],[0,1]],[],[],[(0,[1,2,5,6,7,8,9,10,11,12,13,14,15,16,17,18,19,20,21,22])],[],[[2],[5,6,7],[],[8,9,10],[12,13],[14,15,16,17,18,19,20,21],[3,22]],[[],[7]],[(11,[11],[])],[(11,[11,4,0],[])],[]⟩
  | 136 => Tab.hints ⟨[],[],[],[],[],[[0],[],[4,5,6],[1,7,8,9,10],[3,11]],[[],[],[],[1],[3]],[],[],[]⟩
  | 137 => Tab.hints ⟨[],[],[],[],[],[[0],[],[4,5,6],[1,7,8,9,10],[3,11]],[[],[],[],[1],[3]],[],[],[]⟩
  | 138 => Tab.hints ⟨[[],[],[],[0]],[[],[3]],[],[],[],[[0,1,5],[3,7,8,9,10],[11],[13],[2,6,14,15,16,17,18]],[[],[3],[],[],[2]],[(12,[12,6,2],[2])],[(12,[12],[])],[]⟩
  | 143 => Tab.hints ⟨[[],[0]],[],[],[],[],[[4],[0,1,5,6,7,8]],[],[],[],[]⟩
  | 144 => Tab.hints ⟨[],[],[],[(0,[2,3,4,6,7,8,9,10,11,12,13,14,15,16,17,18,19,20,21,22,23,24,25])],[],[[4],[6,7,8,9],[],[],[11,12,13],[15,16],[17,18,19,20,21,22,23,24]],[],[(10,[10,0,1],[]),(14,[14],[]),(25,[25,0,1,5],[])],[(10,[10],[]),(14,[14,0,1,5],[]),(25,[25],[])],[]⟩
  | 145 => Tab.hints ⟨[],[],[],[(0,[2,3,4,6,7,8,9,10,11,12,13,14,15,16,17,18,19,20,21,22,23,24,25,26])],[],[[4],[6,7,8,9],[],[],[11,12,13],[15,16],[17,18,19,20,21,22,23,24,25]],[],[(10,[10,0,1],[]),(14,[14],[]),(26,[26,0,1,5],[])],[(10,[10],[]),(14,[14,0,1,5],[]),(26,[26],[])],[]⟩
  | 146 => Tab.hints ⟨[],[],[],[(0,[2,3,4,6,7,8,9,10,11,12,13,14,15,16,17,18,19,20,21,22,23,24,25,26])],[],[[4],[6,7,8,9],[],[],[11,12,13],[15,16],[17,18,19,20,21,22,23,24,25]],[],[(10,[10,0,1],[]),(14,[14],[]),(26,[26,0,1,5],[])],[(10,[10],[]),(14,[14,0,1,5],[]),(26,[26],[])],[]⟩
  | 147 => Tab.hints ⟨[],[],[],[(0,[2,3,4,6,7,8,9,10,11,12,13,14,15,16,17,18,19,20,21,22,23,24,25,26])],[],[[4],[6,7,8,9],[],[],[11,12,13],[15,16],[17,18,19,20,21,22,23,24,25]],[],[(10,[10,0,1],[]),(14,[14],[]),(26,[26,0,1,5],[])],[(10,[10],[]),(14,[14,0,1,5],[]),(26,[26],[])],[]⟩
  | 148 => Tab.hints ⟨[],[],[],[],[],[[0,1,4],[5,6,7,8],[],[2,3,10,11,12,13,14]],[[],[],[],[2,3]],[(9,[9,3,2],[2,3]),(15,[15],[])],[(9,[9],[]),(15,[15],[])],[]⟩
  | 149 => Tab.hints ⟨[],[],[],[],[],[[0,1,4],[5,6,7,8],[],[2,3,10,11,12,13,14]],[[],[],[],[2,3]],[(9,[9,3,2],[2,3]),(15,[15],[])],[(9,[9],[]),(15,[15],[])],[]⟩
  | 150 => Tab.hints ⟨[],[],[],[],[],[[6],[0,1,2,7,8,9,10,11,12,13,14]],[],[],[],[]⟩
  | 151 => Tab.hints ⟨[],[[],[],[],[],[5]],[],[(0,[2,3,4,5,6,9,10,11,12,13,14,15,16,17,18])],[],[[4],[6],[],[10],[11,12,13,14,15],[5,17],[18]],[],[(9,[9],[]),(16,[16,7,1,0,8],[])],[(9,[9,7,1,0,8],[]),(16,[16,5],[])],[(1048581,[4100])]⟩
  | 152 => Tab.hints ⟨[[],[],[],[],[],[],[],[],[5]],[],[],[(0,[2,3,4,7,8,9,10,11,12,13,14,15,16,17,18,19,20,21,22,23,24,25,26,27,28,29,30,31,32,33,34,35,36,37])],[],[[4],[],[8,9],[10,11],[13,14,15,16],[17,18,19,20,21],[7,23,24],[7,25],[0,1,5,26,27,28,29,30,31,32,33,34,35,36,37]],[],[(12,[12],[]),(22,[22,5],[])],[(12,[12,6],[]),(22,[22,6],[])],[]⟩
  | 153 => Tab.hints ⟨[],[],[],[(0,[2,3,4,6,7,8,9,10,11,12,13,14,15,16,17,18,19])],[],[[4],[],[6,7,8],[10,11],[12,13,14,15,16,17],[5,19]],[],[(9,[9],[]),(18,[18,0,1],[])],[(9,[9,0,1,5],[]),(18,[18],[])],[]⟩
  | 154 => Tab.hints ⟨[],[],[],[(0,[2,3,4,6,7,8,9,10,11,12,13,14,15,16,17,18,19])],[],[[4],[],[6,7,8],[10,11],[12,13,14,15,16,17],[5,19]],[],[(9,[9],[]),(18,[18,0,1],[])],[(9,[9,0,1,5],[]),(18,[18],[])],[]⟩
  | 155 => Tab.hints ⟨[],[],[],[(0,[0,1,4,5,6,7,8,9,10,11,12,13,14,15,16,17,18,19,20,21,22,23,24,25,26,27,28,29,30,31,32,33,34,35,36,37,38,39,40,41,42,43,44,45,46,47,48,49,50,51,52,53,54,55,56,57,58,59,60,61,62,63,64,65,66,67,68,69,70,71,72,73,74,75,76,77,78,79,80,81,82,83,84,85,86,87])],[],[[0,1,4],[7,8,9],[10,11,12],[2,3,5,6,13,14,15,16,17,18,19,20,21,22,23,24,25],[27,28],[29,30],[],[5,32,33,34,35,36,37],[6,38,39,40,41,42,43],[45,46],[5,47,48,49,50,51,52],[54,55,56,57,58,59,60,61,62,63,64,65,66,67,68,69,70,71,72,73,74,75],[5,76,77,78,79,80,81],[6,82,83,84,85,86,87]],[[],[],[],[2,3]],[(26,[26],[]),(44,[44,6],[]),(53,[53],[]),(31,[31,3,2,6,5],[2,3])],[(26,[26],[]),(44,[44],[]),(53,[53],[]),(31,[31],[])],[]⟩
  | 156 => Tab.hints ⟨[],[],[],[],[],[[0,2],[1,3,4,5,6,7,8,9,10,11,12,13,14,15,16]],[[],[1]],[],[],[]⟩
  | 157 => Tab.hints ⟨[],[],[],[(0,[0,1,4,6,7,8,9,10,11,12,13,14,15,16,17,18,19,20,21,22,23,24,25,26,27,28,29,30,31,32,33,34,35,36,37,38,39,40,41,42,43,44,45,46,47,48,49,50,51,52,53,54,55,56,57,58,59,60,61,62,63,64,65,66,67,68,69,70,71,72,73]),(2,[0,1,4,5,7,8,9,10,11,12,13,14,15,16,17,18,19,20,21,22,23,24,25,26,27,28,29,30,31,32,33,34,35,36,37,38,39,40,41,42,43,44,45,46,47,48,49,50,51,52,53,54,55,56,57,58,59,60,61,62,63,64,65,66,67,68,69,70,71,72,73])],[],[[0,1,4],[7,8,9,10,11,12,13,14,15,16,17,18,19,20,21,22,23,24,25,26,27,28,29,30,31,32,33,34,35],[],[],[37,38,39,40],[42,43],[44,45,46,47,48,49,50,51,52,53],[],[],[55,56,57,58],[60,61],[62,63,64,65,66,67,68,69,70,71,72]],[],[(36,[36,2,3],[2,3]),(41,[41],[]),(54,[54,2,3,5],[2,3]),(59,[59],[]),(73,[73,2,3,6],[2,3])],[(36,[36],[]),(41,[41,5],[]),(54,[54],[]),(59,[59,2,3,6],[2,3]),(73,[73],[])],[]⟩
  | 158 => Tab.hints ⟨[[],[5]],[],[],[],[],[[],[0,3,4,5,6,7,8]],[],[],[],[]⟩
  | 159 => Tab.hints ⟨[],[[],[],[],[],[5]],[],[(0,[2,3,4,5,6,9,10,11,12,13,14,15,16,17,18])],[],[[4],[6],[],[10],[11,12,13,14,15],[5,17],[18]],[],[(9,[9],[]),(16,[16,7,1,0,8],[])],[(9,[9,7,1,0,8],[]),(16,[16,5],[])],[]⟩
  | 160 => Tab.hints ⟨[[],[0]],[[],[2]],[],[],[],[[4],[0,1,5,6,7,8]],[],[],[],[]⟩
  | 161 => Tab.hints ⟨[],[],[],[],[],[[0,2],[1,3,4,5,6]],[[],[1]],[],[],[]⟩
  | 162 => Tab.hints ⟨[[],[0]],[[],[2]],[],[],[],[[1,4],[0,3,5,6,7]],[[],[3]],[],[],[]⟩
  | 163 => Tab.hints ⟨[],[],[],[],[],[[0,1,4],[11,12,13,14,15],[16,17,18,19,20],[8,22],[5,6,7,23,24,25,26,27,28],[6,30],[3,5,31,32,33],[34,35,36,37,38],[39,40,41,42,43],[9,10,44,45,46],[5,7,48,49,50],[2,3,51,52,53,54,55,56,57,58,59,60,61,62,63,64,65]],[[],[],[],[],[5,7],[],[3,5],[],[],[],[5,7],[2,3]],[(21,[21,3,2],[2,3]),(29,[29,7,2],[2,7]),(47,[47,3,2],[2,3])],[(21,[21],[]),(29,[29],[]),(47,[47,5,7],[5,7])],[]⟩
  | 164 => Tab.hints ⟨[],[],[],[],[],[[0,2],[1,3,4,5]],[[],[1]],[],[],[]⟩
  | 165 => Tab.hints ⟨[],[[],[24]],[],[],[],[[0,1,4],[2,3,5,6,7,8,9,10,11,12,13,14,15,16,17,18,19,20,21,22,23,24,25,26,27,28,29,30]],[[],[2,3]],[],[],[]⟩
  | 169 => Tab.hints ⟨[],[],[],[],[],[[0,4],[5,6,7,8,9],[10],[],[12,13,14,15,16],[17],[],[19,20,21,22],[23],[],[25,26,27,28],[29],[],[2,31,32,33,34],[35],[],[1,37]],[[],[],[],[],[],[],[],[],[],[],[],[],[],[2]],[(11,[11,2,1],[2]),(18,[18,2,1],[2]),(24,[24,2,1],[2]),(30,[30,1,2],[2]),(36,[36,1],[])],[(11,[11],[]),(18,[18],[]),(24,[24],[]),(30,[30],[]),(36,[36],[])],[]⟩
  | 170 => Tab.hints ⟨[],[],[],[],[],[[0,4],[5,6,7,8,9],[10],[],[12,13,14,15,16],[17],[],[19,20,21,22],[23],[],[25,26,27,28],[29],[],[2,31,32,33,34],[35],[],[1,37]],[[],[],[],[],[],[],[],[],[],[],[],[],[],[2]],[(11,[11,2,1],[2]),(18,[18,2,1],[2]),(24,[24,2,1],[2]),(30,[30,1,2],[2]),(36,[36,1],[])],[(11,[11],[]),(18,[18],[]),(24,[24],[]),(30,[30],[]),(36,[36],[])],[]⟩
  | 171 => Tab.hints ⟨[],[],[],[],[],[[0,4],[5,6,7,8,9],[10],[],[12,13,14,15,16],[17],[],[2,19,20,21,22],[23],[],[1,25]],[[],[],[],[],[],[],[],[2]],[(11,[11,2,1],[2]),(18,[18,1,2],[2]),(24,[24,1],[])],[(11,[11],[]),(18,[18],[]),(24,[24],[])],[]⟩
  | 172 => Tab.hints ⟨[],[],[],[],[],[[0,4],[5,6,7,8,9],[10],[],[12,13,14,15],[16],[],[2,18,19,20,21],[22],[],[1,24]],[[],[],[],[],[],[],[],[2]],[(11,[11,2,1],[2]),(17,[17,1,2],[2]),(23,[23,1],[])],[(11,[11],[]),(17,[17],[]),(23,[23],[])],[]⟩
  | 174 => Tab.hints ⟨[],[],[],[],[],[[0],[],[4,5,6],[7,8,9],[10,11,12,13],[14,15,16,17],[1,18,19,20,21],[3,22]],[[],[],[],[],[],[],[1],[3]],[],[],[]⟩
  | 175 => Tab.hints ⟨[],[],[],[],[],[[0],[],[4,5,6],[7,8,9],[10,11,12,13],[14,15,16],[17,18,19,20],[1,21,22,23,24],[3,25]],[[],[],[],[],[],[],[],[1],[3]],[],[],[]⟩
  | 176 => Tab.hints ⟨[],[],[],[],[],[[0],[],[4,5,6],[7,8,9],[1,10,11,12,13],[3,14]],[[],[],[],[],[1],[3]],[],[],[]⟩
  | 177 => Tab.hints ⟨[],[],[],[],[],[[0],[],[4,5,6],[7,8,9],[10,11,12,13],[1,14,15,16,17],[3,18]],[[],[],[],[],[],[1],[3]],[],[],[]⟩
  | 178 => Tab.hints ⟨[],[[],[],[],[],[5]],[],[(0,[2,3,4,5,6,9,10,11,12,13,14,15,16,17,18])],[],[[4],[6],[],[10],[11,12,13,14,15],[5,17],[18]],[],[(9,[9],[]),(16,[16,7,1,0,8],[])],[(9,[9,7,1,0,8],[]),(16,[16,5],[])],[]⟩
  | 182 => Tab.hints ⟨[],[],[],[(0,[2,3,4,5,6,9,10,11,12,13,14,15,16,17,18])],[],[[4],[6],[],[10],[11,12,13,14,15],[5,17],[18]],[],[(9,[9],[]),(16,[16,7,1,0,8],[])],[(9,[9,7,1,0,8],[]),(16,[16,5],[])],[]⟩
  | 183 => Tab.hints ⟨[],[],[],[],[],[[0,1,4],[5,6,7,8],[],[10,11,12,13],[],[15,16,17,18,19],[],[21,22,23,24,25],[],[2,3,27,28,29,30,31]],[[],[],[],[],[],[],[],[],[],[2,3]],[(9,[9,2,3],[2,3]),(14,[14,3,2],[2,3]),(20,[20,2,3],[2,3]),(26,[26,3,2],[2,3]),(32,[32],[])],[(9,[9],[]),(14,[14],[]),(20,[20],[]),(26,[26],[]),(32,[32],[])],[]⟩
  | 184 => Tab.hints ⟨[],[],[],[],[],[[0,1,4],[5,6,7,8],[],[10,11,12,13],[],[15,16,17,18,19],[],[21,22,23,24],[],[26,27,28,29,30],[],[2,3,32,33,34,35,36]],[[],[],[],[],[],[],[],[],[],[],[],[2,3]],[(9,[9,3,2],[2,3]),(14,[14,2,3],[2,3]),(20,[20,3,2],[2,3]),(25,[25,2,3],[2,3]),(31,[31,3,2],[2,3]),(37,[37],[])],[(9,[9],[]),(14,[14],[]),(20,[20],[]),(25,[25],[]),(31,[31],[]),(37,[37],[])],[]⟩
  | 185 => Tab.hints ⟨[],[],[],[],[],[[0,1,4],[5,6,7,8],[],[10,11,12,13],[],[2,3,15,16,17,18,19]],[[],[],[],[],[],[2,3]],[(9,[9,2,3],[2,3]),(14,[14,3,2],[2,3]),(20,[20],[])],[(9,[9],[]),(14,[14],[]),(20,[20],[])],[]⟩
  | 186 => Tab.hints ⟨[],[],[],[],[],[[0,1,4],[5,6,7,8],[],[10,11,12,13],[],[15,16,17,18,19],[],[2,3,21,22,23,24,25]],[[],[],[],[],[],[],[],[2,3]],[(9,[9,3,2],[2,3]),(14,[14,2,3],[2,3]),(20,[20,3,2],[2,3]),(26,[26],[])],[(9,[9],[]),(14,[14],[]),(20,[20],[]),(26,[26],[])],[]⟩
  | 187 => Tab.hints ⟨[],[[],[],[],[],[5]],[],[(0,[2,3,4,5,6,9,10,11,12,13,14,15,16,17,18])],[],[[4],[6],[],[10],[11,12,13,14,15],[5,17],[18]],[],[(9,[9],[]),(16,[16,7,1,0,8],[])],[(9,[9,7,1,0,8],[]),(16,[16,5],[])],[]⟩
  | 189 => Tab.hints ⟨[[],[],[3]],[],[],[],[],[[0,5],[1,8,9,10,11,12,13,14],[2,6,7,15,16,17,18,19]],[[],[],[2]],[],[],[]⟩
  | 190 => Tab.hints ⟨[],[],[],[],[],[[4],[0,1,5,6,7]],[],[],[],[]⟩
  | 191 => Tab.hints ⟨[],[],[],[(0,[2,3,4,5,6,7,8,9,10,11,14,15,16,17,18,19,20,21,22,23,24,25])],[],[[4],[6,7,8,9],[],[11],[],[15],[5,16,17,18,19,20,21,22,23],[],[25]],[],[(10,[10,0,1],[]),(14,[14],[]),(24,[24,12,0,1,13],[])],[(10,[10],[]),(14,[14,12,0,1,13],[]),(24,[24],[])],[]⟩
  | 192 => Tab.hints ⟨[[],[],[],[0]],[[],[],[],[],[],[],[],[3]],[],[(0,[0,3,4,5,6,7,8,9,10,11,12,13,14,18,19,20,21,22,23,24,25,26,27,28,29,30,31])],[(0,[8,9])],[[6],[10,11,12,13],[],[0],[],[19,20,21],[7,22,23,24,25],[8,9,26,27,28,29],[],[31]],[[],[],[],[],[],[],[],[8,9]],[(14,[14,1,2,0],[]),(18,[18],[]),(30,[30,16,15,1,2,17],[])],[(14,[14],[]),(18,[18,16,15,1,2,17],[]),(30,[30],[])],[]⟩
  | 204 => Tab.hints ⟨[],[],[],[],[],[[0,4],[5,6,7,8,9],[10],[],[2,12,13,14,15,16],[17],[],[1,19]],[[],[],[],[],[2]],[(11,[11,2,1],[2]),(18,[18,1],[])],[(11,[11],[]),(18,[18],[])],[]⟩
  | 205 => Tab.hints ⟨[],[],[],[(0,[2,3,4,6,7,8,9,10,11,12,13,14,15,16,17,18,19,20,21,22,23,24,25,26])],[],[[4],[6,7,8,9],[10],[],[],[12,13,14],[16,17],[18,19,20,21,22,23],[24],[],[1,26]],[],[(11,[11,0,1],[]),(15,[15],[]),(25,[25,0,1,5],[])],[(11,[11],[]),(15,[15,0,5],[]),(25,[25],[])],[]⟩
  | 206 => Tab.hints ⟨[],[],[],[],[],[[0],[],[4,5,6],[1,7,8,9],[3,10]],[[],[],[],[1],[3]],[],[],[]⟩
  | 207 => Tab.hints ⟨[[0],[3],[],[],[],[],[0,1]],[],[],[(0,[1,2,5,6,7,8,9,10,11,12,13,14,15,16,17,18,19,20,21,22])],[],[[2],[5,6,7],[],[8,9,10],[12,13],[14,15,16,17,18,19,20,21],[3,22]],[[],[7]],[(11,[11],[])],[(11,[11,4,0],[])],[]⟩
  | 208 => Tab.hints ⟨[],[],[],[],[],[[0,1,4],[5,6,7,8],[],[2,3,10,11,12,13]],[[],[],[],[2,3]],[(9,[9,3,2],[2,3]),(14,[14],[])],[(9,[9],[]),(14,[14],[])],[]⟩
  | 209 => Tab.hints ⟨[],[],[],[(0,[2,3,4,6,7,8,9,10,11,12,13,14,15,16,17,18,19,20,21,22,23,24,25,26])],[],[[4],[6,7,8,9],[],[],[11,12,13],[15,16],[17,18,19,20,21,22,23,24,25]],[],[(10,[10,0,1],[]),(14,[14],[]),(26,[26,0,1,5],[])],[(10,[10],[]),(14,[14,0,1,5],[]),(26,[26],[])],[]⟩
  | 210 => Tab.hints ⟨[],[],[],[],[],[[4,5],[0,1,6,7,8,9,10]],[],[],[],[]⟩
  | 211 => Tab.hints ⟨[],[],[],[],[],[[4],[0,1,5,6,7,8,9,10,11,12,13,14,15,16,17,18,19,20]],[],[],[],[]⟩
  | 218 => Tab.hints ⟨[],[],[],[],[],[[4,5],[6,7,8],[0,10],[0,1,11,12,13,14,15,16,17]],[],[(9,[9,1],[])],[(9,[9],[])],[]⟩
  | _ => Tab.hints aR8
end Go.Vs
end
section
open Go Go.Vs Go.Proofs
namespace Go.Vs
noncomputable abbrev atA {m : Bool} (D : aP m) (f : FuncId) (x : List Nat × St m) : Ret m := atF Tryz.prog D Hs f x.1 0 x.2
end Go.Vs
end
