/- What the program's functions compute, read off their text by the shadow runner (VsFast, VsFast2, VsSub, VsLoop, VsAt, VsNm, NNm, NHs, VsTy); no condition. -/
import Derived.Test.YtphfegkplihmhaaGreatDoorRows
import Derived.KernelRfl
import Derived.Test.YtphfegkplihmhaaGreatDoorVB2
section
set_option linter.unusedVariables false
set_option linter.unusedSimpArgs false
namespace Go.Vs
variable {m : Bool}
section
variable {β : Type}
def dG (k0 : IntKind) (l : (aC m)) (k : Int → Option β) : Option β := match l with | .int k1 n => if k1 = k0 then k n else none | _ => none
def dY (l : (aC m)) (k : Bool → Option β) : Option β := match l with | .bool b => k b | _ => none
def cE (l : (aC m)) (k : ByteArray → Option β) : Option β := match l with | .str s => k s | _ => none
def slK (l : (aC m)) (k : Fl m → List (List (aC m)) → Option β) : Option β := match l with | .sl c es => k c es | _ => none
def aKY (P : Program) (t : TypeId) (l : (aC m)) (k : (aC m) → Option β) : Option β :=
  match P.underlying t with
  | some (.int k0) => dG k0 l fun n => k (.int k0 n)
  | some .bool => dY l fun b => k (.bool b)
  | some .string => cE l fun s => k (.str s)
  | some (.slice _) => slK l fun c es => k (.sl c es)
  | _ => none
def atK (e : List (aC m)) (p : Nat) (k : (aC m) → Option β) : Option β := match e[p]? with | some l => k l | none => none
def vJ (P : Program) : List TypeId → List (aC m) → Nat → (List (aC m) → Option β) → Option β
  | [], _, _, k => k []
  | t :: ts, e, p, k => atK e p fun l => aKY P t l fun l' => vJ P ts e (p + 1) fun ls => k (l' :: ls)
def aRh (P : Program) : Nat → TypeId → Option (List TypeId)
  | 0, _ => none
  | n + 1, t => match P.underlying t with
    | some (.struct fs) => fs.toList.foldr (fun f r => (aRh P n f.type).bind fun a => r.map (a ++ ·)) (some [])
    | some (.array _ _) | none => none
    | some _ => some [t]
def gI (e : List (aC m)) (k : List (aC m) → Option β) : Option β := k e
def aMr (P : Program) (t : TypeId) (e : List (aC m)) (p : Nat) (k : (SV m) → Option β) : Option β :=
  match kW P t with
  | true => (aRh P 8 t).bind fun ts => (dS P t).bind fun n => if ts.length = n ∧ 0 < n then gI e fun e => vJ P ts e p fun ls => k (.agg ls) else none
  | false => atK e p fun l => aKY P t l fun l' => k (.leaf l')
def aM (v : (SV m)) (k : (aC m) → Option β) : Option β := match v with | .leaf l => k l | _ => none
def kO (v : (SV m)) (k : Fl m → List (List (aC m)) → Option β) : Option β := match v with | .leaf (.sl c es) => k c es | _ => none
def pN (e : TypeId) (v : (SV m)) (k : List (List (aC m)) → Option β) : Option β := match v with | .own (some e') es => if e' = e then k es else none | _ => none
def aCU (e : TypeId) (v : (SV m)) (k : List (List (aC m)) → Option β) : Option β := match v with | .raw (some e') es => if e' = e then k es else none | _ => none
def aE1 (i z : Nat) (v : (SV m)) (k : Nat → Nat → Option β) : Option β := match v with | .bsl b z' lo n => if b = i ∧ z' = z then k lo n else none | _ => none
def aVp (P : Program) (t : TypeId) (cs : List (SV m)) (p n : Nat) (k : (SV m) → Option β) : Option β :=
  (cM ((cs.drop p).take n)).bind fun e => aMr P t e 0 k
def fA (v : (SV m)) (k : List (aC m) → Option β) : Option β := match v with | .agg cs => k cs | _ => none
def aHg (v : (SV m)) (k : Option β) : Option β := match v with | .nilface => k | _ => none
def lV (v : (SV m)) (k : List (SV m) → Option β) : Option β := match v with | .tup vs => k vs | _ => none
def aEh (P : Program) (own : Bool) (t : TypeId) (v : (SV m)) (k : (SV m) → Option β) : Option β :=
  match P.underlying t with
  | some (.slice e) => (match own with
    | true => pN e v fun es => k (.own (some e) es)
    | false => kO v fun c es => k (.leaf (.sl c es)))
  | some (.struct _) => fA v fun cs => (aRh P 8 t).bind fun ts => aA (cs.length == ts.length) (vJ P ts cs 0 fun ls => k (.agg ls))
  | some (.interface _) => aHg v (k .nilface)
  | some _ => aM v fun l => aKY P t l fun l' => k (.leaf l')
  | none => none
def cY (l : List (SV m)) (k : (SV m) → List (SV m) → Option β) : Option β := match l with | v :: r => k v r | [] => none
def hM (l : List (SV m)) (k : Option β) : Option β := match l with | [] => k | _ => none
def aFv (P : Program) : List TypeId → List (SV m) → (List (SV m) → Option β) → Option β
  | [], l, k => hM l (k [])
  | t :: ts, l, k => cY l fun v r => aEh P false t v fun v' => aFv P ts r fun vs => k (v' :: vs)
def aOm (P : Program) (own : Bool) (t : TypeId) (v : (SV m)) (k : (SV m) → Option β) : Option β :=
  match P.underlying t with
  | some (.tuple ts) => lV v fun vs => aFv P ts.toList vs fun vs' => k (.tup vs')
  | _ => aEh P own t v k
def aNR (c d : (SV m)) (k : (SV m) → Option β) : Option β :=
  match c with
  | .leaf (.int k0 _) => aM d fun l => dG k0 l fun n => k (.leaf (.int k0 n))
  | .leaf (.bool _) => aM d fun l => dY l fun b => k (.leaf (.bool b))
  | .leaf (.str _) => aM d fun l => cE l fun s => k (.leaf (.str s))
  | .leaf (.sl _ _) => kO d fun c es => k (.leaf (.sl c es))
  | .own (some e) _ => pN e d fun es => k (.own (some e) es)
  | _ => none
def aEW : List (SV m) → List (SV m) → (List (SV m) → Option β) → Option β
  | [], l, k => hM l (k [])
  | c :: cs, l, k => cY l fun d r => aNR c d fun d' => aEW cs r fun ds => k (d' :: ds)
def aHw (cs : List (SV m)) (p : Nat) (k : (SV m) → Option β) : Option β := match cs[p]? with | some c => k c | none => none
def aUq (P : Program) (t : TypeId) : Bool := match P.underlying t with | some (.int _) | some .bool | some .string | some (.slice _) => true | _ => false
def aNG (P : Program) (t : TypeId) (c : (SV m)) (k : (SV m) → Option β) : Option β := match aUq P t with | true => aEh P false t c.drop k | false => k c.drop
def mO (l : List (List (SV m))) (k : List (SV m) → List (List (SV m)) → Option β) : Option β := match l with | v :: r => k v r | [] => none
def jT (l : List (List (SV m))) (k : Option β) : Option β := match l with | [] => k | _ => none
def aU4 (row : Bool) (c d : List (SV m)) (k : List (SV m) → Option β) : Option β := match row with | true => k d | false => aEW c d k
def aAE : List Bool → List (List (SV m)) → List (List (SV m)) → (List (List (SV m)) → Option β) → Option β
  | [], _, l, k => jT l (k [])
  | w :: ws, [], l, k => jT l (k [])
  | w :: ws, c :: cs, l, k => mO l fun d r => aU4 w c d fun d' => aAE ws cs r fun ds => k (d' :: ds)
end
section
variable {β : Type} {P : Program}
theorem aRB {k0 : IntKind} {l : (aC m)} {k : Int → Option β} {y : β} (h : dG k0 l k = some y) : ∃ n, l = .int k0 n ∧ k n = some y := by
  unfold dG at h
  split at h
  · split at h
    · rename_i hk; subst hk; exact ⟨_, rfl, h⟩
    · simp at h
  · simp at h
theorem aQm {l : (aC m)} {k : Bool → Option β} {y : β} (h : dY l k = some y) : ∃ n, l = .bool n ∧ k n = some y := by
  unfold dY at h; split at h
  · exact ⟨_, rfl, h⟩
  · simp at h
theorem aRL {l : (aC m)} {k : ByteArray → Option β} {y : β} (h : cE l k = some y) : ∃ n, l = .str n ∧ k n = some y := by
  unfold cE at h; split at h
  · exact ⟨_, rfl, h⟩
  · simp at h
theorem aVr {l : (aC m)} {k : Fl m → List (List (aC m)) → Option β} {y : β} (h : slK l k = some y) : ∃ c es, l = .sl c es ∧ k c es = some y := by
  unfold slK at h; split at h
  · exact ⟨_, _, rfl, h⟩
  · simp at h
theorem aMT {t : TypeId} {l : (aC m)} {k : (aC m) → Option β} {y : β} (h : aKY P t l k = some y) : k l = some y := by
  unfold aKY at h
  split at h
  · obtain ⟨n, rfl, h'⟩ := aRB h; exact h'
  · obtain ⟨n, rfl, h'⟩ := aQm h; exact h'
  · obtain ⟨n, rfl, h'⟩ := aRL h; exact h'
  · obtain ⟨c, es, rfl, h'⟩ := aVr h; exact h'
  · simp at h
theorem aTg {e : List (aC m)} {p : Nat} {k : (aC m) → Option β} {y : β} (h : atK e p k = some y) : ∃ l, e[p]? = some l ∧ k l = some y := by
  unfold atK at h; split at h
  · exact ⟨_, by assumption, h⟩
  · simp at h
theorem aFe : ∀ (ts : List TypeId) (e : List (aC m)) (p : Nat) (k : List (aC m) → Option β) (y : β), vJ P ts e p k = some y → (e.drop p).take ts.length = (e.drop p).take ts.length ∧ (ts.length = 0 ∨ p + ts.length ≤ e.length) ∧ k ((e.drop p).take ts.length) = some y
  | [], e, p, k, y, h => ⟨rfl, .inl rfl, by simpa [vJ] using h⟩
  | t :: ts, e, p, k, y, h => by
    simp only [vJ] at h
    obtain ⟨l, hl, h⟩ := aTg h
    have h := aMT h
    obtain ⟨_, h2, h3⟩ := aFe ts e (p + 1) _ y h
    have hlt := (List.getElem?_eq_some_iff.1 hl).1
    have hd : e.drop p = l :: e.drop (p + 1) := by
      rw [List.drop_eq_getElem_cons hlt]
      congr 1
      exact (List.getElem?_eq_some_iff.1 hl).2
    refine ⟨rfl, .inr ?_, ?_⟩
    · simp only [List.length_cons]
      rcases h2 with h2 | h2 <;> omega
    · rw [hd]
      simpa using h3
theorem aPQ {t : TypeId} {e : List (aC m)} {p : Nat} {k : (SV m) → Option β} {y : β} (h : aMr P t e p k = some y) : ∃ v, aBN P t e p = some v ∧ k v = some y := by
  unfold aMr at h
  unfold aBN
  split at h
  · rename_i ha
    rw [if_pos ha]
    rw [Option.bind_eq_some_iff] at h
    obtain ⟨ts, hts, h⟩ := h
    rw [Option.bind_eq_some_iff] at h
    obtain ⟨n, hn, h⟩ := h
    split at h
    · rename_i hl
      obtain ⟨_, h2, h3⟩ := aFe ts e p _ y h
      rw [hn]
      rw [hl.1] at h2 h3
      have hle : p + n ≤ e.length := by rcases h2 with h2 | h2 <;> omega
      exact ⟨.agg ((e.drop p).take n), by simp [hle], h3⟩
    · simp at h
  · rename_i ha
    rw [if_neg (by simp [ha])]
    obtain ⟨l, hl, h⟩ := aTg h
    have h := aMT h
    exact ⟨.leaf l, by rw [hl]; rfl, h⟩
theorem aCR {v : (SV m)} {k : (aC m) → Option β} {y : β} (h : aM v k = some y) : ∃ l, v = .leaf l ∧ k l = some y := by
  unfold aM at h; split at h
  · exact ⟨_, rfl, h⟩
  · simp at h
theorem aP0 {v : (SV m)} {k : Fl m → List (List (aC m)) → Option β} {y : β} (h : kO v k = some y) : ∃ c es, v = .leaf (.sl c es) ∧ k c es = some y := by
  unfold kO at h; split at h
  · exact ⟨_, _, rfl, h⟩
  · simp at h
theorem aNQ {e : TypeId} {v : (SV m)} {k : List (List (aC m)) → Option β} {y : β} (h : pN e v k = some y) : ∃ es, v = .own (some e) es ∧ k es = some y := by
  unfold pN at h; split at h
  · split at h
    · rename_i he; subst he; exact ⟨_, rfl, h⟩
    · simp at h
  · simp at h
theorem aSV {v : (SV m)} {k : List (aC m) → Option β} {y : β} (h : fA v k = some y) : ∃ cs, v = .agg cs ∧ k cs = some y := by
  unfold fA at h; split at h
  · exact ⟨_, rfl, h⟩
  · simp at h
theorem aSe {v : (SV m)} {k : Option β} {y : β} (h : aHg v k = some y) : v = .nilface ∧ k = some y := by
  unfold aHg at h; split at h
  · exact ⟨rfl, h⟩
  · simp at h
theorem aSn {v : (SV m)} {k : List (SV m) → Option β} {y : β} (h : lV v k = some y) : ∃ vs, v = .tup vs ∧ k vs = some y := by
  unfold lV at h; split at h
  · exact ⟨_, rfl, h⟩
  · simp at h
theorem aPE {l : List (SV m)} {k : (SV m) → List (SV m) → Option β} {y : β} (h : cY l k = some y) : ∃ v r, l = v :: r ∧ k v r = some y := by
  unfold cY at h; split at h
  · exact ⟨_, _, rfl, h⟩
  · simp at h
theorem aPR {l : List (SV m)} {k : Option β} {y : β} (h : hM l k = some y) : l = [] ∧ k = some y := by
  unfold hM at h; split at h
  · exact ⟨rfl, h⟩
  · simp at h
theorem aKA {own : Bool} {t : TypeId} {v : (SV m)} {k : (SV m) → Option β} {y : β} (h : aEh P own t v k = some y) : k v = some y := by
  unfold aEh at h
  split at h
  · split at h
    · obtain ⟨es, rfl, h'⟩ := aNQ h; exact h'
    · obtain ⟨c, es, rfl, h'⟩ := aP0 h; exact h'
  · obtain ⟨cs, rfl, h'⟩ := aSV h
    rw [Option.bind_eq_some_iff] at h'
    obtain ⟨ts, hts, h2⟩ := h'
    obtain ⟨hl, h3⟩ := aU h2
    obtain ⟨_, _, h4⟩ := aFe ts cs 0 _ y h3
    have hl' : cs.length = ts.length := by simpa using hl
    rw [← hl', List.drop_zero, List.take_length] at h4
    exact h4
  · obtain ⟨rfl, h'⟩ := aSe h; exact h'
  · obtain ⟨l, rfl, h'⟩ := aCR h
    exact aMT h'
  · simp at h
theorem aN1 : ∀ (ts : List TypeId) (l : List (SV m)) (k : List (SV m) → Option β) (y : β), aFv P ts l k = some y → k l = some y
  | [], l, k, y, h => by
    simp only [aFv] at h
    obtain ⟨rfl, h'⟩ := aPR h
    exact h'
  | t :: ts, l, k, y, h => by
    simp only [aFv] at h
    obtain ⟨v, r, rfl, h'⟩ := aPE h
    exact aN1 ts r _ y (aKA h')
theorem aTo {own : Bool} {t : TypeId} {v : (SV m)} {k : (SV m) → Option β} {y : β} (h : aOm P own t v k = some y) : k v = some y := by
  unfold aOm at h
  split at h
  · obtain ⟨vs, rfl, h'⟩ := aSn h
    exact aN1 _ _ _ y h'
  · exact aKA h
theorem aTI {c d : (SV m)} {k : (SV m) → Option β} {y : β} (h : aNR c d k = some y) : k d = some y := by
  unfold aNR at h
  split at h
  · obtain ⟨l, rfl, h1⟩ := aCR h; obtain ⟨n, rfl, h2⟩ := aRB h1; exact h2
  · obtain ⟨l, rfl, h1⟩ := aCR h; obtain ⟨n, rfl, h2⟩ := aQm h1; exact h2
  · obtain ⟨l, rfl, h1⟩ := aCR h; obtain ⟨n, rfl, h2⟩ := aRL h1; exact h2
  · obtain ⟨c, es, rfl, h1⟩ := aP0 h; exact h1
  · obtain ⟨es, rfl, h1⟩ := aNQ h; exact h1
  · simp at h
theorem aOa : ∀ (cs l : List (SV m)) (k : List (SV m) → Option β) (y : β), aEW cs l k = some y → k l = some y
  | [], l, k, y, h => by
    simp only [aEW] at h
    obtain ⟨rfl, h'⟩ := aPR h
    exact h'
  | c :: cs, l, k, y, h => by
    simp only [aEW] at h
    obtain ⟨v, r, rfl, h'⟩ := aPE h
    exact aOa cs r _ y (aTI h')
theorem aQn {l : List (List (SV m))} {k : List (List (SV m)) → Option β} {y : β} (h : jT l (k []) = some y) : k l = some y := by
  unfold jT at h
  split at h
  · exact h
  · simp at h
theorem aUy {row : Bool} {c d : List (SV m)} {k : List (SV m) → Option β} {y : β} (h : aU4 row c d k = some y) : k d = some y := by
  cases row
  · exact aOa c d k y h
  · exact h
theorem aNK : ∀ (ws : List Bool) (cs l : List (List (SV m))) (k : List (List (SV m)) → Option β) (y : β), aAE ws cs l k = some y → k l = some y
  | [], _, l, k, y, h => aQn (by simpa only [aAE] using h)
  | w :: ws, [], l, k, y, h => aQn (by simpa only [aAE] using h)
  | w :: ws, c :: cs, l, k, y, h => by
    simp only [aAE] at h
    unfold mO at h
    split at h
    · rename_i v r
      have h2 := aUy h
      exact aNK ws cs r (fun ds => k (v :: ds)) y h2
    · simp at h
theorem aUO {cs : List (SV m)} {p : Nat} {k : (SV m) → Option β} {y : β} (h : aHw cs p k = some y) : ∃ c, cs[p]? = some c ∧ k c = some y := by
  unfold aHw at h; split at h
  · exact ⟨_, by assumption, h⟩
  · simp at h
theorem aUm {t : TypeId} {c : (SV m)} {k : (SV m) → Option β} {y : β} (h : aNG P t c k = some y) : k c.drop = some y := by
  unfold aNG at h
  split at h
  · exact aKA h
  · exact h
end
def aUS (op : BinOp) (k : IntKind) (a b : Int) : Option (Bool × (aC m)) :=
  match op with
  | .quo => some (!(b == 0), .int k (k.wrap (a.tdiv b)))
  | .rem => some (!(b == 0), .int k (a.tmod b))
  | .shl => some (decide (0 ≤ b), .int k (k.wrap (a * 2 ^ min b.toNat k.bits)))
  | .shr => some (decide (0 ≤ b), .int k (a.fdiv (2 ^ min b.toNat k.bits)))
  | op => (aDq op k a b).map fun l => (true, l)
def aVk (op : BinOp) (x y : ByteArray) : Option (Bool × (aC m)) :=
  match op with
  | .add => some (decide (x.size + y.size ≤ 140737488355328), .str (x ++ y))
  | op => (aNU op x y).map fun l => (true, l)
def aVy (P : Program) (op : BinOp) (t : TypeId) (x y : (SV m)) : Option (Bool × (SV m)) :=
  match x.drop, y.drop with
  | .leaf (.int k a), .leaf (.int k' b) =>
    if aLO op = true then (aUS op k a b).map fun p => (p.1, .leaf p.2)
    else if k = k' then (aUS op k a b).map fun p => (p.1, .leaf p.2) else none
  | .leaf (.str a), .leaf (.str b) => (aVk op a b).map fun p => (p.1, .leaf p.2)
  | _, _ => (aPa P op t x y).map fun v => (true, v)
theorem aUe {op : BinOp} {k : IntKind} {a b : Int} {p : Bool × (aC m)} (h : aUS op k a b = some p) (hp : p.1 = true) : aDq op k a b = some p.2 := by
  cases op <;> simp only [aUS] at h <;> try (rw [Option.map_eq_some_iff] at h; obtain ⟨l, hl, rfl⟩ := h; exact hl)
  all_goals (simp only [Option.some.injEq] at h; subst h; simp at hp)
  · simp [aDq, hp]
  · simp [aDq, hp]
  · simp only [aDq]; rw [if_neg (by omega)]
  · simp only [aDq]; rw [if_neg (by omega)]
theorem aVN {op : BinOp} {a b : ByteArray} {p : Bool × (aC m)} (h : aVk op a b = some p) (hp : p.1 = true) : aNU op a b = some p.2 := by
  cases op <;> simp only [aVk] at h <;> try (rw [Option.map_eq_some_iff] at h; obtain ⟨l, hl, rfl⟩ := h; exact hl)
  simp only [Option.some.injEq] at h; subst h; simp at hp
  simp [aNU, hp]
theorem aVH {P : Program} {op : BinOp} {t : TypeId} {x y : (SV m)} {p : Bool × (SV m)} (h : aVy P op t x y = some p) (hp : p.1 = true) : aPa P op t x y = some p.2 := by
  unfold aVy at h
  split at h
  · rename_i k a k' b ex ey
    unfold aPa
    rw [ex, ey]
    simp only
    split at h
    · rename_i hs
      rw [if_pos hs]
      rw [Option.map_eq_some_iff] at h ⊢
      obtain ⟨q, hq, rfl⟩ := h
      exact ⟨q.2, aUe hq hp, rfl⟩
    · rename_i hs
      rw [if_neg hs]
      split at h
      · rename_i hk
        rw [if_pos hk]
        rw [Option.map_eq_some_iff] at h ⊢
        obtain ⟨q, hq, rfl⟩ := h
        exact ⟨q.2, aUe hq hp, rfl⟩
      · simp at h
  · rename_i a b ex ey
    unfold aPa
    rw [ex, ey]
    simp only
    rw [Option.map_eq_some_iff] at h ⊢
    obtain ⟨q, hq, rfl⟩ := h
    exact ⟨q.2, aVN hq hp, rfl⟩
  · rw [Option.map_eq_some_iff] at h
    obtain ⟨v, hv, rfl⟩ := h
    exact hv
def aWg : (SV m) → Option (Bool × Nat)
  | .leaf (.int _ n) => some (decide (0 ≤ n), n.toNat)
  | _ => none
def aPW (ρ : Operand → (SV m)) : Option Operand → Option (Bool × Option Nat)
  | none => some (true, none)
  | some x => (aWg (ρ x)).map fun p => (p.1, some p.2)
theorem aKB {ρ : Operand → (SV m)} {x : Option Operand} {p : Bool × Option Nat} (h : aPW ρ x = some p) (hp : p.1 = true) : kR ρ x = some p.2 := by
  cases x with
  | none => simp [aPW] at h; subst h; rfl
  | some x =>
    simp only [aPW, Option.map_eq_some_iff] at h
    obtain ⟨q, hq, rfl⟩ := h
    simp only [kR]
    unfold aWg at hq
    split at hq
    · rename_i k n hx
      simp only [Option.some.injEq] at hq
      subst hq
      have : 0 ≤ n := of_decide_eq_true hp
      simp [aRZ, hx, this]
    · simp at hq
def aRc (P : Program) (t : TypeId) (x : (SV m)) (lo hi : Option Nat) : Option (Bool × (SV m)) :=
  match P.underlying t, x.drop with
  | some (.slice _), .bsl b z k n =>
    (oY P t).bind fun e => (dS P e).bind fun z' => if z' = z then some (decide (lo.getD 0 ≤ hi.getD n) && decide (hi.getD n ≤ n), .bsl b z (k + lo.getD 0) (hi.getD n - lo.getD 0)) else none
  | some .string, .leaf (.str b) => some (decide (lo.getD 0 ≤ hi.getD b.size) && decide (hi.getD b.size ≤ b.size), .leaf (.str (b.extract (lo.getD 0) (hi.getD b.size))))
  | some (.slice _), .leaf (.sl c es) =>
    (oY P t).bind fun e => (dS P e).bind fun z =>
      some (decide (lo.getD 0 ≤ hi.getD es.length) && decide (hi.getD es.length ≤ es.length) && sized z es, .leaf (.sl (c.later lo) ((es.take (hi.getD es.length)).drop (lo.getD 0))))
  | _, _ => none
def aOH (P : Program) (t : TypeId) (x : (SV m)) (lo hi mx : Option Nat) : Option (Bool × (SV m)) :=
  match P.underlying t, x.drop, hi, mx with
  | some (.slice _), .bsl b z k n, some h, some c =>
    (oY P t).bind fun e => (dS P e).bind fun z' => if z' = z then some (decide (lo.getD 0 ≤ h) && decide (h ≤ c) && decide (c ≤ n), .bsl b z (k + lo.getD 0) (h - lo.getD 0)) else none
  | _, _, _, _ => none
theorem aSI {P : Program} {t : TypeId} {x : (SV m)} {lo hi mx : Option Nat} {p : Bool × (SV m)} (h : aOH P t x lo hi mx = some p) (hp : p.1 = true) : aCP P t x lo hi mx = some p.2 := by
  unfold aOH at h
  split at h
  · rename_i e b z k n h' c hu ex
    rw [Option.bind_eq_some_iff] at h
    obtain ⟨e', he, h⟩ := h
    rw [Option.bind_eq_some_iff] at h
    obtain ⟨z', hz, h⟩ := h
    split at h
    · rename_i hzz
      simp only [Option.some.injEq] at h; subst h
      simp only [Bool.and_eq_true, decide_eq_true_eq] at hp
      unfold aCP
      rw [hu, ex]
      simp only [he, Option.bind_some, hz]
      rw [if_pos ⟨hp, hzz⟩]
    · simp at h
  · simp at h
theorem aT7 {P : Program} {t : TypeId} {x : (SV m)} {lo hi : Option Nat} {p : Bool × (SV m)} (h : aRc P t x lo hi = some p) (hp : p.1 = true) : aCT P t x lo hi = some p.2 := by
  unfold aRc at h
  split at h
  · rename_i e b z k n hu ex
    rw [Option.bind_eq_some_iff] at h
    obtain ⟨e', he, h⟩ := h
    rw [Option.bind_eq_some_iff] at h
    obtain ⟨z', hz, h⟩ := h
    split at h
    · rename_i hzz
      simp only [Option.some.injEq] at h; subst h
      simp only [Bool.and_eq_true, decide_eq_true_eq] at hp
      unfold aCT
      rw [hu, ex]
      simp only [he, hz, Option.bind_some]
      rw [if_pos ⟨hp, hzz⟩]
    · simp at h
  · rename_i b hu ex
    simp only [Option.some.injEq] at h; subst h
    simp only [Bool.and_eq_true, decide_eq_true_eq] at hp
    unfold aCT
    rw [hu, ex]
    simp only
    rw [if_pos hp]
  · rename_i e c es hu ex
    rw [Option.bind_eq_some_iff] at h
    obtain ⟨e', he, h⟩ := h
    rw [Option.bind_eq_some_iff] at h
    obtain ⟨z, hz, h⟩ := h
    simp only [Option.some.injEq] at h; subst h
    simp only [Bool.and_eq_true, decide_eq_true_eq] at hp
    unfold aCT
    rw [hu, ex]
    simp only [he, hz, Option.bind_some]
    rw [if_pos hp.1, hp.2]
    rfl
  · simp at h
def aHc (P : Program) (t : TypeId) (x i : (SV m)) : Option (Bool × (SV m)) :=
  match oY P t, x.drop, i with
  | some e, .bsl b z lo k, .leaf (.int _ n) => (dS P e).bind fun z' => if z' = z ∧ 0 < z then some (decide (0 ≤ n) && decide (n < (k : Int)), .ptr b ((lo + n.toNat) * z)) else none
  | some e, .leaf (.sl c es), .leaf (.int _ n) => (dS P e).bind fun z =>
    some (decide (0 ≤ n) && decide (n < (es.length : Int)) && sized z es, .eptr c (es.getD n.toNat []) 0)
  | _, _, _ => none
theorem aON {P : Program} {t : TypeId} {x i : (SV m)} {p : Bool × (SV m)} (h : aHc P t x i = some p) (hp : p.1 = true) : qD P t x i = some p.2 := by
  unfold aHc at h
  split at h
  · rename_i e b z lo q kk n he ex
    rw [Option.bind_eq_some_iff] at h
    obtain ⟨z', hz, h⟩ := h
    split at h
    · rename_i hzz
      simp only [Option.some.injEq] at h; subst h
      simp only [Bool.and_eq_true, decide_eq_true_eq] at hp
      unfold qD
      rw [he, ex]
      simp only [hz, Option.bind_some]
      rw [if_pos hp.1, if_pos hp.2, if_pos hzz]
    · simp at h
  · rename_i e c es k n he ex
    rw [Option.bind_eq_some_iff] at h
    obtain ⟨z, hz, h⟩ := h
    simp only [Option.some.injEq] at h; subst h
    simp only [Bool.and_eq_true, decide_eq_true_eq] at hp
    unfold qD
    rw [he, ex]
    simp only [hz, Option.bind_some]
    rw [if_pos hp.1.1, if_pos hp.1.2, hp.2]
    rfl
  · simp at h
def aT4 (P : Program) (t : TypeId) (l c : (SV m)) : Option (Bool × ((Nat × Nat) × List (SV m))) :=
  match l, c with
  | .leaf (.int _ a), .leaf (.int _ b) =>
    (oY P t).bind fun e => (P.info? e).bind fun i => (qN P e).bind fun ze => aA (decide (0 < i.size) && ze.length == i.size) <|
      some (decide (0 ≤ a) && a == b && decide (a.toNat * i.bytes ≤ aK) && decide (a.toNat ≤ aK), ((i.size, a.toNat), ((List.replicate a.toNat ze).flatten.map .leaf)))
  | _, _ => none
theorem aUM {P : Program} {t : TypeId} {x y : (SV m)} {p : Bool × ((Nat × Nat) × List (SV m))} (h : aT4 P t x y = some p) (hp : p.1 = true) : aNP P t x y = some p.2 := by
  unfold aT4 at h
  split at h
  · rename_i k1 a k2 b
    rw [Option.bind_eq_some_iff] at h
    obtain ⟨e, he, h⟩ := h
    rw [Option.bind_eq_some_iff] at h
    obtain ⟨i, hi, h⟩ := h
    rw [Option.bind_eq_some_iff] at h
    obtain ⟨ze, hze, h⟩ := h
    obtain ⟨hg, h⟩ := aU h
    simp only [Option.some.injEq] at h; subst h
    simp only [Bool.and_eq_true, decide_eq_true_eq, beq_iff_eq] at hp hg
    unfold aNP
    simp only [he, hi, hze, Option.bind_some]
    rw [if_pos ⟨⟨hp.1.1.1, hp.1.1.2⟩, ⟨hg.1, hp.1.2, hp.2⟩, hg.2⟩]
  · simp at h
def aRn (P : Program) (t : TypeId) (x i : (SV m)) : Option (Bool × (SV m)) :=
  match P.underlying t, x, i with
  | some .string, .leaf (.str s), .leaf (.int _ n) => some (decide (0 ≤ n) && decide (n < (s.size : Int)), .leaf (.int .u8 (s.data.toList.getD n.toNat 0).toNat))
  | _, _, _ => none
theorem aT0 {P : Program} {t : TypeId} {x i : (SV m)} {p : Bool × (SV m)} (h : aRn P t x i = some p) (hp : p.1 = true) : aHA P t x i = some p.2 := by
  unfold aRn at h
  split at h
  · rename_i s k n hu
    simp only [Option.some.injEq] at h; subst h
    simp only [Bool.and_eq_true, decide_eq_true_eq] at hp
    unfold aHA
    rw [hu]
    simp only
    rw [if_pos hp.1, if_pos hp.2]
  · simp at h
def aOx (P : Program) (argTypes : Array TypeId) (x y : (SV m)) : Option (Bool × (SV m)) :=
  match argTypes.toList, x with
  | [t, u], .own eo es =>
    (oY P t).bind fun e => (P.info? e).bind fun i => aA (eo.getD e == e && decide (0 < i.size) && decide (0 < i.bytes) && pK P e) <|
      match P.underlying u, y.see with
      | some (.slice _), .leaf (.sl _ fs) => if t = u then some (decide ((es.length + fs.length) * i.bytes ≤ aK) && sized i.size fs, .own (some e) (es ++ fs)) else none
      | some .string, .leaf (.str s) => aA (xW P e) (some (decide (es.length + s.size ≤ aK), .own (some e) (es ++ s.data.toList.map fun b => [.int .u8 b.toNat])))
      | _, _ => none
  | [t, u], .raw eo es =>
    (oY P t).bind fun e => (P.info? e).bind fun i => aA (eo.getD e == e && decide (0 < i.size) && decide (0 < i.bytes) && pK P e) <|
      match P.underlying u, y.see with
      | some (.slice _), .leaf (.sl _ fs) => if t = u then some (decide ((es.length + fs.length) * i.bytes ≤ aK) && sized i.size fs, .raw (some e) (es ++ fs)) else none
      | some .string, .leaf (.str s) => aA (xW P e) (some (decide (es.length + s.size ≤ aK), .raw (some e) (es ++ s.data.toList.map fun b => [.int .u8 b.toNat])))
      | _, _ => none
  | _, _ => none
theorem aSk {P : Program} {ts : Array TypeId} {x y : (SV m)} {p : Bool × (SV m)} (h : aOx P ts x y = some p) (hp : p.1 = true) : aCE P ts x y = some p.2 := by
  unfold aOx at h
  split at h
  · rename_i t u eo es hts
    rw [Option.bind_eq_some_iff] at h
    obtain ⟨e, he, h⟩ := h
    rw [Option.bind_eq_some_iff] at h
    obtain ⟨i, hi, h⟩ := h
    obtain ⟨hg, h⟩ := aU h
    unfold aCE
    rw [hts]
    simp only [he, hi, Option.bind_some, hg, aA]
    split at h
    · rename_i e2 c fs hu hy
      rw [hu, hy]
      simp only
      split at h
      · rename_i htu
        simp only [Option.some.injEq] at h; subst h
        simp only [Bool.and_eq_true, decide_eq_true_eq] at hp
        rw [if_pos ⟨htu, hp.1⟩, hp.2]
      · simp at h
    · rename_i s hu hy
      rw [hu, hy]
      simp only
      obtain ⟨hz, h⟩ := aU h
      simp only [Option.some.injEq] at h; subst h
      have hp' := of_decide_eq_true hp
      rw [if_pos hp', hz]
    · simp at h
  · rename_i t u eo es hts
    rw [Option.bind_eq_some_iff] at h
    obtain ⟨e, he, h⟩ := h
    rw [Option.bind_eq_some_iff] at h
    obtain ⟨i, hi, h⟩ := h
    obtain ⟨hg, h⟩ := aU h
    unfold aCE
    rw [hts]
    simp only [he, hi, Option.bind_some, hg, aA]
    split at h
    · rename_i e2 c fs hu hy
      rw [hu, hy]
      simp only
      split at h
      · rename_i htu
        simp only [Option.some.injEq] at h; subst h
        simp only [Bool.and_eq_true, decide_eq_true_eq] at hp
        rw [if_pos ⟨htu, hp.1⟩, hp.2]
      · simp at h
    · rename_i s hu hy
      rw [hu, hy]
      simp only
      obtain ⟨hz, h⟩ := aU h
      simp only [Option.some.injEq] at h; subst h
      have hp' := of_decide_eq_true hp
      rw [if_pos hp', hz]
    · simp at h
  · simp at h
def aRy : List (aC m) → Bool | [.int .u8 _] => true | _ => false
def aL4 : List (aC m) → UInt8 | [.int .u8 n] => UInt8.ofNat n.toNat | _ => 0
def aTp (P : Program) (src dst : TypeId) (x : (SV m)) : Option (Bool × (SV m)) :=
  match P.underlying src, P.underlying dst, x.drop with
  | some (.slice e), some .string, .leaf (.sl _ es) =>
    match P.underlying e with
    | some (.int .u8) => some (es.all aRy, .leaf (.str ⟨(es.map aL4).toArray⟩))
    | _ => none
  | _, _, _ => (aK5 P src dst x).map fun v => (true, v)
theorem aNW : ∀ (es : List (List (aC m))), es.all aRy = true → nA es = some (es.map aL4)
  | [], _ => rfl
  | e :: es, h => by
    simp only [List.all_cons, Bool.and_eq_true] at h
    have ih := aNW es h.2
    have h1 := h.1
    unfold aRy at h1
    split at h1
    · simp [nA, ih, aL4]
    · simp at h1
theorem aUV {P : Program} {src dst : TypeId} {x : (SV m)} {p : Bool × (SV m)} (h : aTp P src dst x = some p) (hp : p.1 = true) : aK5 P src dst x = some p.2 := by
  unfold aTp at h
  split at h
  · rename_i e c es hs hd ex
    unfold aK5
    rw [hs, hd, ex]
    simp only
    split at h
    · rename_i he
      simp only [Option.some.injEq] at h; subst h
      rw [he]
      simp [aNW es hp]
    · simp at h
  · rw [Option.map_eq_some_iff] at h
    obtain ⟨v, hv, rfl⟩ := h
    exact hv
end Go.Vs
end
section
namespace Go.Vs
variable {m : Bool}
section
variable {β : Type}
def aRm (P : Program) (own : Bool) (rk : Nat) (dst : Option Tmp) (t : TypeId) (v : (SV m)) (k : (SV m) → Option β) : Option β := match rk with
  | 0 => (match dst with | none => k v | some _ => aOm P own t v k)
  | 1 => (oY P t).bind fun e => aCU e v fun es => k (.raw (some e) es)
  | r + 2 => aE1 (r % 16) (r / 16) v fun lo n => k (.bsl (r % 16) (r / 16) lo n)
def aVl (args : List (SV m)) : List Nat := args.flatMap fun | .bsl b _ _ _ => [b] | _ => []
def aKv (P : Program) (D : (bK m)) (s : (St m)) (own pureHint : Bool) (rk : Nat) (f : FuncId) (args : List (SV m)) (dst : Option Tmp) (t : TypeId) (k : (St m) → Option β) : Option β :=
  aA (args.all SV.handed) <|
    match pureHint with
    | true => aA (jM args).isEmpty ((D f args []).bind fun r => aRm P own rk dst t r.1 fun v => k (s.put dst v))
    | false => (sF s.boxes (jM args)).bind fun cs => aA (cs.all (·.all SV.flat)) <|
        (D f (args.map (SV.ren (gV (jM args)))) cs).bind fun r => aAE ((jM args).map (aVl args).contains) cs r.2 fun bs => aRm P own rk dst t r.1 fun v => k (({ s with boxes := iO s.boxes (jM args) bs } : (St m)).put dst (v.ren ((jM args).getD · 0)))
def refine (s : (St m)) (x : Operand) (b : Bool) : (St m) := match x with | .tmp t => s.put (some t) (.leaf (.bool b)) | _ => s
def aPe (s : (St m)) (t : Tmp) (want : Bool) (x y : (St m) → Option β) : Option β :=
  match s.tmps.getD t .any with
  | .leaf (.bool b) => aB (b == want) (x (refine s (.tmp t) want)) (y (refine s (.tmp t) !want))
  | .skip => y s
  | _ => none
def gN (cs : List (SV m)) (p : Nat) (vs : List (SV m)) : List (SV m) := cs.take p ++ vs ++ cs.drop (p + vs.length)
def fS (P : Program) (D : (bK m)) (nt : Nat) (mv pu ta : Bool) (rk : Nat) (o : Oper) (s : (St m)) (k : (St m) → Option β) : Option β :=
  match o.op with
  | .pick c a b => oM (s.eval c) fun t => aB t (k ((refine s c true).put o.dst ((refine s c true).eval a).drop)) (k ((refine s c false).put o.dst ((refine s c false).eval b).drop))
  | .load t x => (match s.eval x with
    | .eptr _ e p => aMr P t e p fun v => k (s.put o.dst v)
    | .ptr b p => aA pu (match kW P t, mv, rk with
      | false, false, _ => (s.box b).bind fun cs => aHw cs p fun c => aNG P t c fun v => k (s.put o.dst v)
      | true, _, 1 => (s.box b).bind fun cs => (dS P t).bind fun n => aA (decide (p + n ≤ cs.length)) (aVp P t cs p n fun v => k (s.put o.dst v))
      | _, _, _ => fO P D nt mv pu ta o s k)
    | _ => fO P D nt mv pu ta o s k)
  | .store t x y => (match s.eval x with
    | .ptr b p => (s.box b).bind fun cs => (dS P t).bind fun n => aA ((s.eval y).data || aD0 (s.eval y)) (aA (n == (s.eval y).cells.length && decide (p + n ≤ cs.length)) (k (((s.take y).setBox b (some (gN cs p (s.eval y).cells))).put o.dst .skip)))
    | _ => fO P D nt mv pu ta o s k)
  | .makeSlice t l c => (match o.dst with
    | some d => (match s.box d with
      | none => aA (decide (d < nt)) ((aT4 P t (s.eval l) (s.eval c)).bind fun p => aA p.1 (k ((s.setBox d (some p.2.2)).put o.dst (.bsl d p.2.1.1 0 p.2.1.2))))
      | some _ => none)
    | none => none)
  | .binOp op t x y _ => (aVy P op t (s.eval x) (s.eval y)).bind fun p => aA p.1 (k (s.put o.dst p.2))
  | .convert src dst x => (aTp P src dst (s.eval x)).bind fun p => aA p.1 (k (s.put o.dst p.2))
  | .slice t x lo hi none => (aPW s.eval lo).bind fun l => (aPW s.eval hi).bind fun h => (aRc P t (s.eval x) l.2 h.2).bind fun p => aA (l.1 && h.1 && p.1) (k (s.put o.dst p.2))
  | .slice t x lo hi (some mx) => (aPW s.eval lo).bind fun l => (aPW s.eval hi).bind fun h => (aPW s.eval (some mx)).bind fun c => (aOH P t (s.eval x) l.2 h.2 c.2).bind fun p => aA (l.1 && h.1 && c.1 && p.1) (k (s.put o.dst p.2))
  | .indexAddr t x i => (aHc P t (s.eval x) (s.eval i)).bind fun p => aA p.1 (k (s.put o.dst p.2))
  | .index t x i => (aRn P t (s.eval x) (s.eval i)).bind fun p => aA p.1 (k (s.put o.dst p.2))
  | .call c => (match c.callee with
    | .builtin .append => (match c.args.toList with
      | [x, y] => (aOx P c.argTypes (s.eval x) (s.eval y)).bind fun p => aA p.1 (k ((s.take x).put o.dst p.2))
      | _ => none)
    | .builtin .clear => (match c.args.toList with
      | [x] => (match s.eval x with
        | .bsl b z lo n => (s.box b).bind fun cs => (c.argTypes[0]?).bind fun t => (oY P t).bind fun e => (qN P e).bind fun ze => aA (ze.length == z && decide (0 < z)) (aA (decide ((lo + n) * z ≤ cs.length)) (k ((s.setBox b (some (gN cs (lo * z) ((List.replicate n ze).flatten.map .leaf)))).put o.dst .any)))
        | _ => none)
      | _ => none)
    | .value g => (match s.eval g with
      | .fn f caps => aA (decide (cQ c.args.toList).Nodup) (aKv P D (s.takes (aAC ta c.args.toList)) mv pu rk f (c.args.toList.map (rC ta s.eval) ++ caps) o.dst o.type k)
      | _ => none)
    | _ => fO P D nt mv pu ta o s k)
  | _ => fO P D nt mv pu ta o s k
def aJT (P : Program) (D : (bK m)) (nt : Nat) (mv pu ta : Bool) (rk : Nat) (ops : Array Oper) (o : Oper) (s : (St m)) (k : (St m) → Option β) : Option β :=
  match o.guard with
  | none => fS P D nt mv pu ta rk o s k
  | some (j, want) => match (ops[j]?).bind (·.dst) with
    | some t => aPe s t want (fun s => fS P D nt mv pu ta rk o s k) (fun s => k (s.put o.dst .skip))
    | none => none
def aA7 (P : Program) (D : (bK m)) (nt : Nat) (mv pu ta : Nat → Bool) (rk : Nat → Nat) (ops : Array Oper) : List Oper → Nat → (St m) → ((St m) → Option β) → Option β
  | [], _, s, k => k s
  | o :: r, i, s, k => aJT P D nt (mv i) (pu i) (ta i) (rk i) ops o s fun s' => aA7 P D nt mv pu ta rk ops r (i + 1) s' k
def aWb (H : gB) (r i : Nat) : Nat := (((H.fz (1048577 + r)).find? fun x => x % 4096 == i).map (· / 4096)).getD 0
end
section
variable {β : Type}
def aTr (v : (SV m)) (k : (SV m) → Option β) : Option β :=
  match v with
  | .any => k .any
  | .skip => k .skip
  | .leaf l => k (.leaf l)
  | .own e es => k (.own e es)
  | .raw e es => k (.raw e es)
  | .agg cs => k (.agg cs)
  | .ptr b o => k (.ptr b o)
  | .eptr c e o => k (.eptr c e o)
  | .bsl b z lo n => k (.bsl b z lo n)
  | .kfn f cs => k (.kfn f cs)
  | .nilptr => k .nilptr
  | .nilface => k .nilface
  | .fn f caps => k (.fn f caps)
  | .tup vs => k (.tup vs)
theorem aS8 (v : (SV m)) (k : (SV m) → Option β) : aTr v k = k v := by cases v <;> rfl
def aPh : List (SV m) → (List (SV m) → Option β) → Option β
  | [], k => k []
  | v :: l, k => aTr v fun v' => aPh l fun l' => k (v' :: l')
theorem aOj : ∀ (l : List (SV m)) (k : List (SV m) → Option β), aPh l k = k l
  | [], _ => rfl
  | v :: l, k => by simp only [aPh, aS8, aOj l]
def aJN : List (Option (List (SV m))) → (List (Option (List (SV m))) → Option β) → Option β
  | [], k => k []
  | none :: l, k => aJN l fun l' => k (none :: l')
  | some c :: l, k => aJN l fun l' => k (some c :: l')
theorem aJC : ∀ (l : List (Option (List (SV m)))) (k : List (Option (List (SV m))) → Option β), aJN l k = k l
  | [], _ => rfl
  | none :: l, k => by simp only [aJN, aJC l]
  | some c :: l, k => by simp only [aJN, aJC l]
def wT (s : (St m)) (k : (St m) → Option β) : Option β := aPh s.tmps fun t => aJN s.boxes fun b => k ⟨t, b⟩
theorem sX (s : (St m)) (k : (St m) → Option β) : wT s k = k s := by unfold wT; rw [aOj, aJC]
end
def eA {β : Type} (P : Program) (D : (bK m)) (H : gB) (loop : ((St m) → Option (Out m)) → ((St m) → Option (St m)) → (St m) → Option (Out m)) : Nat → Code → (St m) → ((Out m) → Option β) → Option β
  | _, .skip, s, k => k (.norm s)
  | _, .region id ops draw, s, k => aA (!draw || aAf (H.mv id) (H.pure id) (H.take id) ops) (wT (St.freeze H.nt s (H.fz (4194304 + id))) fun s => aA7 P D H.nt (H.mv id) (H.pure id) (H.take id) (aWb H id) ops ops.toList 0 s fun s' => wT (St.freeze H.nt (s'.tidy (H.after id) (H.afterB id)) (H.fz id)) fun s' => k (.norm s'))
  | blk, .seq a b, s, k => eA P D H loop blk a s (aNd (fun s' => eA P D H loop blk b s' k) k)
  | blk, .cond c a b, s, k => oM (s.eval c) fun t => aB t (wT (s.dropC H.condA c) fun s => eA P D H loop blk a s k) (wT (s.dropC H.condB c) fun s => eA P D H loop blk b s k)
  | _, .block id a, s, k => eA P D H loop id a s (uJ id k)
  | blk, .loop a, s, k => (loop (fun s => eA P D H loop blk a s some) (fun s => s.again (H.clear blk) (H.drop blk)) s).bind k
  | _, .exit id, s, k => k (.exit id s)
  | _, .ret, s, k => k (.ret s)
  | _, _, _, _ => none
def aOw (P : Program) (fn : Func) (n : Nat) (s : (St m)) : Option ((SV m) × List (List (SV m))) := match fn.results.toList with
  | [.tmp t] => (match s.tmps.getD t .any with
    | .bsl b z lo k => (match decide (b < fn.ntmps) with
      | true => aA (lo == 0 && decide (0 < z)) ((s.box b).bind fun cs => aA (decide (k * z ≤ cs.length)) ((cM (cs.take (k * z))).bind fun l =>
        (sF s.boxes ((List.range n).map (fn.ntmps + ·))).bind fun cs' => aA (cs'.all (·.all SV.flat)) (some (.leaf (.sl (Fl.new m) (kH z k l)), cs'))))
      | false => wO P fn n s)
    | _ => wO P fn n s)
  | _ => wO P fn n s
def aOb (P : Program) (fn : Func) (n : Nat) : (Out m) → Option ((SV m) × List (List (SV m)))
  | .norm s => aOw P fn n s
  | .ret s => aOw P fn n s
  | .exit _ _ => none
theorem aMO {P : Program} {fn : Func} {n : Nat} {s : St m} {r : (SV m) × List (List (SV m))} (h : aOw P fn n s = some r) : wO P fn n s = some r := by
  unfold aOw at h
  split at h
  · rename_i t hr
    split at h
    · rename_i b z lo k hv
      split at h
      · rename_i hb
        have hb := of_decide_eq_true hb
        obtain ⟨h1, h'⟩ := aU h
        replace h := h'
        clear h'
        simp only [Bool.and_eq_true, beq_iff_eq, decide_eq_true_eq] at h1
        obtain ⟨rfl, hz⟩ := h1
        rw [Option.bind_eq_some_iff] at h
        obtain ⟨cs, hcs, h⟩ := h
        obtain ⟨h2, h⟩ := aU h
        have h2 := of_decide_eq_true h2
        rw [Option.bind_eq_some_iff] at h
        obtain ⟨l, hl, h⟩ := h
        rw [Option.bind_eq_some_iff] at h
        obtain ⟨cs', hcs', h⟩ := h
        obtain ⟨h3, h⟩ := aU h
        have hbox : s.box b = some cs := hcs
        have hres : aIe P fn s = some (.leaf (.sl (Fl.new m) (kH z k l))) := by
          unfold aIe
          rw [hr]
          simp only [aHx, hv, aQg]
          rw [if_pos ⟨hb, trivial⟩, hbox, Option.bind_some, if_pos ⟨h2, hz⟩, hl]
          rfl
        unfold wO
        rw [hres, Option.bind_some]
        rw [show SV.homeOk fn.ntmps n (SV.leaf (aC.sl (Fl.new m) (kH z k l))) = true from rfl]
        simp only [aA]
        rw [hcs', Option.bind_some, h3]
        exact h
      · exact h
    · exact h
  · exact h
theorem aNZ {P : Program} {fn : Func} {n : Nat} {o : Out m} {r : (SV m) × List (List (SV m))} (h : aOb P fn n o = some r) : aTR P fn n o = some r := by
  cases o with
  | norm s => exact aMO h
  | ret s => exact aMO h
  | exit _ _ => simp [aOb] at h
def aT (P : Program) (D : (bK m)) (H : FuncId → gB) (loop : ((St m) → Option (Out m)) → ((St m) → Option (St m)) → (St m) → Option (Out m)) : (bK m) := fun f args boxes =>
  match P.funcs[f]? with
  | some fn => match fn.body with
    | some c => eA P D ((H f).fit fn.ntmps) loop 0 c (St.freeze fn.ntmps (aBm fn args boxes) ((H f).fz 1048576)) (aOb P fn boxes.length)
    | none => none
  | none => none
section
variable {P : Program} {D : (bK m)} {β : Type}
theorem aAe {nt : Nat} {mv pu ta : Bool} {o : Oper} {s : (St m)} {k1 k2 : (St m) → Option β} {y : β} (hk : ∀ s, k2 s = some y → k1 s = some y) (h : fO P D nt mv pu ta o s k2 = some y) : fO P D nt mv pu ta o s k1 = some y := by
  rw [aFA, Option.bind_eq_some_iff] at h ⊢
  obtain ⟨e, he, h⟩ := h
  exact ⟨e, he, hk _ h⟩
theorem aR0 {own : Bool} {rk : Nat} {dst : Option Tmp} {t : TypeId} {v : (SV m)} {k : (SV m) → Option β} {y : β} (h : aRm P own rk dst t v k = some y) : k v = some y := by
  unfold aRm at h
  split at h
  · split at h
    · exact h
    · exact aTo h
  · rw [Option.bind_eq_some_iff] at h
    obtain ⟨e, _, h⟩ := h
    unfold aCU at h
    split at h
    · split at h
      · rename_i he; subst he; exact h
      · simp at h
    · simp at h
  · unfold aE1 at h
    split at h
    · split at h
      · rename_i hc; rw [hc.1, hc.2]; exact h
      · simp at h
    · simp at h
theorem aSQ {s : (St m)} {own pu : Bool} {rk : Nat} {f : FuncId} {args : List (SV m)} {dst : Option Tmp} {t : TypeId} {k1 k2 : (St m) → Option β} {y : β} (hk : ∀ s, k2 s = some y → k1 s = some y) (h : aKv P D s own pu rk f args dst t k2 = some y) : aRI D s pu f args dst k1 = some y := by
  unfold aKv at h
  obtain ⟨h1, h⟩ := aU h
  unfold aRI
  rw [h1]
  simp only [aA]
  split at h
  · obtain ⟨h2, h⟩ := aU h
    rw [if_pos rfl, if_pos (by simpa using h2)]
    rw [Option.bind_eq_some_iff] at h ⊢
    obtain ⟨r, hr, h⟩ := h
    exact ⟨r, hr, hk _ (aR0 h)⟩
  · rw [if_neg (by simp)]
    rw [Option.bind_eq_some_iff] at h ⊢
    obtain ⟨cs, hcs, h⟩ := h
    obtain ⟨h2, h⟩ := aU h
    refine ⟨cs, hcs, ?_⟩
    rw [h2]
    simp only
    rw [Option.bind_eq_some_iff] at h ⊢
    obtain ⟨r, hr, h⟩ := h
    refine ⟨r, hr, hk _ ?_⟩
    have h3 := aNK _ cs r.2 _ y h
    exact aR0 h3
theorem gk {x : Option (Bool × (SV m))} {x' : Option (SV m)} {k1 k2 : (SV m) → Option β} {y : β} (hx : ∀ p, x = some p → p.1 = true → x' = some p.2) (hk : ∀ v, k2 v = some y → k1 v = some y) (h : x.bind (fun p => aA p.1 (k2 p.2)) = some y) : x'.bind k1 = some y := by
  rw [Option.bind_eq_some_iff] at h
  obtain ⟨p, hp, h⟩ := h
  obtain ⟨h1, h2⟩ := aU h
  rw [hx p hp h1, Option.bind_some]
  exact hk _ h2
theorem aJP {s : (St m)} {x : Operand} {b : Bool} (h : s.eval x = .leaf (.bool b)) : refine s x b = s := by
  cases x with
  | tmp t =>
    simp only [refine, St.put]
    have h' : s.tmps.getD t .any = .leaf (.bool b) := h
    have hl : s.tmps[t]? = some (.leaf (.bool b)) := by
      rw [List.getD_eq_getElem?_getD] at h'
      cases hx : s.tmps[t]? with
      | none => rw [hx] at h'; simp at h'
      | some v => rw [hx] at h'; simpa using h'
    have : s.tmps.set t (.leaf (.bool b)) = s.tmps := by
      apply List.ext_getElem?
      intro i
      by_cases hi : t = i
      · subst hi; rw [List.getElem?_set_self (List.getElem?_eq_some_iff.1 hl).1, hl]
      · rw [List.getElem?_set_ne hi]
    rw [this]
  | _ => rfl
theorem aSb {s : (St m)} {t : Tmp} {want : Bool} {x y : (St m) → Option β} : aPe s t want x y = pQ (s.tmps.getD t .any) want (x s) (y s) := by
  unfold aPe pQ
  have hr : ∀ b, s.tmps.getD t .any = .leaf (.bool b) → refine s (.tmp t) b = s := fun b hb => aJP (x := .tmp t) hb
  generalize s.tmps.getD t .any = v at hr
  cases v with
  | leaf l =>
    cases l with
    | bool b =>
      simp only [nY]
      by_cases hw : b = want
      · subst hw; simp [hr b rfl]
      · have : b = !want := by cases b <;> cases want <;> simp_all
        subst this
        simp [hr _ rfl]
    | _ => rfl
  | _ => rfl
theorem aOc {nt : Nat} {mv pu ta : Bool} {rk : Nat} {o : Oper} {s : (St m)} {k1 k2 : (St m) → Option β} {y : β} (hk : ∀ s, k2 s = some y → k1 s = some y) (h : fS P D nt mv pu ta rk o s k2 = some y) : fO P D nt mv pu ta o s k1 = some y := by
  cases hop : o.op
  case load t x =>
    simp only [fS, hop] at h
    split at h
    · rename_i c e p hx
      obtain ⟨v, hv, h⟩ := aPQ h
      simp only [fO, hop, hx, hv, Option.bind_some]
      exact hk _ h
    · rename_i b p hx
      have hpu := (aU h).1
      replace h := (aU h).2
      subst hpu
      split at h
      · rename_i ha
        rw [Option.bind_eq_some_iff] at h
        obtain ⟨cs, hcs, h⟩ := h
        obtain ⟨c, hc, h⟩ := aUO h
        have h := aUm h
        simp only [fO, hop, hx, hcs, Option.bind_some, aA]
        rw [if_neg (by simp [ha]), hc]
        exact hk _ h
      · rename_i ha
        rw [Option.bind_eq_some_iff] at h
        obtain ⟨cs, hcs, h⟩ := h
        rw [Option.bind_eq_some_iff] at h
        obtain ⟨n, hn, h⟩ := h
        obtain ⟨hle, h⟩ := aU h
        have hle := of_decide_eq_true hle
        unfold aVp at h
        rw [Option.bind_eq_some_iff] at h
        obtain ⟨e, he, h⟩ := h
        obtain ⟨v, hv, h⟩ := aPQ h
        have hel : e.length = n := by rw [zT he, List.length_take, List.length_drop]; omega
        have hve : v = .agg e := by
          unfold aBN at hv
          rw [if_pos ha, hn, Option.bind_some, if_pos (by omega), List.drop_zero, ← hel, List.take_length] at hv
          exact (Option.some.inj hv).symm
        subst hve
        simp only [fO, hop, hx, hcs, Option.bind_some]
        rw [if_pos ha, hn, Option.bind_some, if_pos hle, he]
        exact hk _ h
      · exact aAe hk h
    · exact aAe hk h
  case store t x y =>
    simp only [fS, hop] at h
    split at h
    · rename_i b p hx
      rw [Option.bind_eq_some_iff] at h
      obtain ⟨cs, hcs, h⟩ := h
      rw [Option.bind_eq_some_iff] at h
      obtain ⟨n, hn, h⟩ := h
      obtain ⟨h1, h⟩ := aU h
      obtain ⟨h2, h⟩ := aU h
      simp only [Bool.and_eq_true, beq_iff_eq, decide_eq_true_eq] at h2
      simp only [fO, hop, hx, hcs, hn, Option.bind_some, h1, aA]
      rw [if_pos h2]
      have := hk _ h
      rw [gN, ← h2.1] at this
      exact this
    · exact aAe hk h
  case makeSlice t l c =>
    simp only [fS, hop] at h
    simp only [fO, hop]
    split at h
    · rename_i d hd
      rw [hd]
      simp only
      split at h
      · rename_i hb
        rw [hb]
        simp only
        obtain ⟨h1, h⟩ := aU h
        rw [h1]
        simp only [aA]
        rw [Option.bind_eq_some_iff] at h ⊢
        obtain ⟨p, hp, h⟩ := h
        obtain ⟨h2, h⟩ := aU h
        refine ⟨p.2, aUM hp h2, ?_⟩
        rw [hd] at h
        exact hk _ h
      · simp at h
    · simp at h
  case pick c x z =>
    simp only [fS, hop] at h
    simp only [fO, hop]
    obtain ⟨b, hb, h⟩ := uG h
    rw [hb]
    simp only [oM]
    cases b
    · simp only [aB, aJP hb] at h ⊢; exact hk _ h
    · simp only [aB, aJP hb] at h ⊢; exact hk _ h
  case binOp op t x z u =>
    simp only [fS, hop] at h
    simp only [fO, hop]
    exact gk (fun p hp h1 => aVH hp h1) (fun v => hk _) h
  case convert src dst x =>
    simp only [fS, hop] at h
    simp only [fO, hop]
    exact gk (fun p hp h1 => aUV hp h1) (fun v => hk _) h
  case slice t x lo hi mx =>
    cases mx with
    | some mx =>
      simp only [fS, hop] at h
      simp only [fO, hop]
      rw [Option.bind_eq_some_iff] at h
      obtain ⟨l, hl, h⟩ := h
      rw [Option.bind_eq_some_iff] at h
      obtain ⟨r, hr, h⟩ := h
      rw [Option.bind_eq_some_iff] at h
      obtain ⟨c, hc, h⟩ := h
      rw [Option.bind_eq_some_iff] at h
      obtain ⟨p, hp, h⟩ := h
      obtain ⟨h1, h2⟩ := aU h
      simp only [Bool.and_eq_true] at h1
      have hmx := aKB hc h1.1.2
      simp only [kR] at hmx
      rw [aKB hl h1.1.1.1, Option.bind_some, aKB hr h1.1.1.2, Option.bind_some]
      refine (congrArg (fun z => Option.bind z _) (aKB hc h1.1.2)).trans ?_
      rw [Option.bind_some, aSI hp h1.2, Option.bind_some]
      exact hk _ h2
    | none =>
      simp only [fS, hop] at h
      simp only [fO, hop]
      rw [Option.bind_eq_some_iff] at h
      obtain ⟨l, hl, h⟩ := h
      rw [Option.bind_eq_some_iff] at h
      obtain ⟨r, hr, h⟩ := h
      rw [Option.bind_eq_some_iff] at h
      obtain ⟨p, hp, h⟩ := h
      obtain ⟨h1, h2⟩ := aU h
      simp only [Bool.and_eq_true] at h1
      rw [aKB hl h1.1.1, Option.bind_some, aKB hr h1.1.2, Option.bind_some, aT7 hp h1.2, Option.bind_some]
      exact hk _ h2
  case indexAddr t x i =>
    simp only [fS, hop] at h
    simp only [fO, hop]
    exact gk (fun p hp h1 => aON hp h1) (fun v => hk _) h
  case index t x i =>
    simp only [fS, hop] at h
    simp only [fO, hop]
    exact gk (fun p hp h1 => aT0 hp h1) (fun v => hk _) h
  case call c =>
    cases hc : c.callee with
    | invoke r m => simp only [fS, hop, hc] at h; exact aAe hk h
    | value g =>
      simp only [fS, hop, hc] at h
      simp only [fO, hop, hc]
      split at h
      · rename_i f caps hg
        obtain ⟨h1, h⟩ := aU h
        rw [hg]
        simp only [h1, aA]
        exact aSQ hk h
      · simp at h
    | builtin b =>
      cases b
      case append =>
        simp only [fS, hop, hc] at h
        simp only [fO, hop, hc]
        split at h
        · rename_i x z hargs
          rw [hargs]
          simp only
          exact gk (fun p hp h1 => aSk hp h1) (fun v => hk _) h
        · simp at h
      case clear =>
        simp only [fS, hop, hc] at h
        simp only [fO, hop, hc]
        split at h
        · rename_i x hargs
          rw [hargs]
          simp only
          split at h
          · rename_i b z lo n hx
            rw [hx]
            simp only
            rw [Option.bind_eq_some_iff] at h
            obtain ⟨cs, hcs, h⟩ := h
            rw [Option.bind_eq_some_iff] at h
            obtain ⟨t, ht, h⟩ := h
            rw [Option.bind_eq_some_iff] at h
            obtain ⟨e, he, h⟩ := h
            rw [Option.bind_eq_some_iff] at h
            obtain ⟨ze, hze, h⟩ := h
            obtain ⟨h1, h⟩ := aU h
            obtain ⟨h2, h⟩ := aU h
            simp only [Bool.and_eq_true, beq_iff_eq, decide_eq_true_eq] at h1 h2
            have hcl : aJO P c.argTypes cs z lo n = some (gN cs (lo * z) ((List.replicate n ze).flatten.map .leaf)) := by
              have hl : ((List.replicate n ze).flatten.map (SV.leaf (m := m))).length = n * z := by simp [h1.1]
              have ha : (lo + n) * z = lo * z + n * z := Nat.add_mul _ _ _
              simp only [aJO, ht, he, hze, Option.bind_some]
              rw [if_pos ⟨h1, h2⟩, gN, hl, ha]
            rw [hcs, Option.bind_some, hcl, Option.bind_some]
            exact hk _ h
          · simp at h
        · simp at h
      all_goals (simp only [fS, hop, hc] at h; exact aAe hk h)
  all_goals (simp only [fS, hop] at h; exact aAe hk h)
theorem aR6 {nt : Nat} {mv pu ta : Bool} {rk : Nat} {ops : Array Oper} {o : Oper} {s : (St m)} {k1 k2 : (St m) → Option β} {y : β} (hk : ∀ s, k2 s = some y → k1 s = some y) (h : aJT P D nt mv pu ta rk ops o s k2 = some y) : aQp P D nt mv pu ta ops o s k1 = some y := by
  unfold aJT at h
  unfold aQp
  cases hg : o.guard with
  | none => rw [hg] at h; exact aOc hk h
  | some g =>
    obtain ⟨j, want⟩ := g
    rw [hg] at h
    simp only at h ⊢
    cases hj : (ops[j]?).bind (·.dst) with
    | none => rw [hj] at h; simp at h
    | some t =>
      rw [hj] at h
      simp only at h ⊢
      rw [aSb] at h
      unfold pQ at h ⊢
      split at h
      · rename_i b hb
        rw [nY] at h ⊢
        split at h
        · rename_i hbw
          rw [if_pos hbw]
          exact aOc hk h
        · rename_i hbw
          rw [if_neg hbw]
          exact hk _ h
      · exact hk _ h
      · simp at h
theorem aMJ {nt : Nat} {mv pu ta : Nat → Bool} {rk : Nat → Nat} {ops : Array Oper} {y : β} : ∀ (l : List Oper) (i : Nat) (s : (St m)) (k1 k2 : (St m) → Option β), (∀ s, k2 s = some y → k1 s = some y) → aA7 P D nt mv pu ta rk ops l i s k2 = some y → kY P D nt mv pu ta ops l i s k1 = some y
  | [], i, s, k1, k2, hk, h => hk _ h
  | o :: l, i, s, k1, k2, hk, h => by
    simp only [aA7] at h
    simp only [kY]
    exact aR6 (fun s' h' => aMJ l (i + 1) s' k1 k2 hk h') h
def Up (loop : ((St m) → Option (Out m)) → ((St m) → Option (St m)) → (St m) → Option (Out m)) : Prop := ∀ body body' again s o, (∀ s o, body s = some o → body' s = some o) → loop body again s = some o → loop body' again s = some o
theorem aRJ : Up (m := m) bA := by
  intro body body' again s o hb h
  obtain ⟨n, hn⟩ := aCo.1 h
  exact aCo.2 ⟨n, tT hb n n (Nat.le_refl _) s o hn⟩
theorem aSf {f1 f2 : (St m) → Option β} {k1 k2 : (Out m) → Option β} {y : β} (hf : ∀ s, f2 s = some y → f1 s = some y) (hk : ∀ o, k2 o = some y → k1 o = some y) : ∀ o, aNd f2 k2 o = some y → aNd f1 k1 o = some y := by
  intro o h
  cases o with
  | norm s => exact hf s h
  | exit id s => exact hk _ h
  | ret s => exact hk _ h
theorem aPp {id : Nat} {k1 k2 : (Out m) → Option β} {y : β} (hk : ∀ o, k2 o = some y → k1 o = some y) : ∀ o, uJ id k2 o = some y → uJ id k1 o = some y := by
  intro o h
  cases o with
  | norm s => exact hk _ h
  | exit id' s =>
    simp only [uJ] at h ⊢
    split at h
    · rename_i he; rw [if_pos he]; exact hk _ h
    · rename_i he; rw [if_neg he]; exact hk _ h
  | ret s => exact hk _ h
theorem aNT {H : gB} {loop : ((St m) → Option (Out m)) → ((St m) → Option (St m)) → (St m) → Option (Out m)} (hL : Up loop) : ∀ (c : Code) (blk : Nat) {β : Type} (s : (St m)) (k1 k2 : (Out m) → Option β) (y : β), (∀ o, k2 o = some y → k1 o = some y) → eA P D H loop blk c s k2 = some y → eU P D H loop blk c s k1 = some y := by
  intro c
  induction c with
  | skip => intro blk β s k1 k2 y hk h; exact hk _ h
  | region id ops draw =>
    intro blk β s k1 k2 y hk h
    simp only [eA] at h
    obtain ⟨hg, h⟩ := aU h
    rw [sX] at h
    simp only [eU, hg, aA]
    exact aMJ _ _ _ _ _ (fun s' h' => by rw [sX] at h'; exact hk _ h') h
  | seq a b iha ihb =>
    intro blk β s k1 k2 y hk h
    simp only [eA] at h
    simp only [eU]
    exact iha blk s _ _ y (aSf (fun s' => ihb blk s' k1 k2 y hk) hk) h
  | cond x a b iha ihb =>
    intro blk β s k1 k2 y hk h
    simp only [eA] at h
    simp only [eU]
    obtain ⟨t, ht, h⟩ := uG h
    rw [ht]
    simp only [oM]
    simp only [sX] at h
    cases t
    · exact ihb blk _ k1 k2 y hk h
    · exact iha blk _ k1 k2 y hk h
  | block id a ih =>
    intro blk β s k1 k2 y hk h
    simp only [eA] at h
    simp only [eU]
    exact ih id s _ _ y (aPp hk) h
  | loop a ih =>
    intro blk β s k1 k2 y hk h
    simp only [eA] at h
    simp only [eU]
    rw [Option.bind_eq_some_iff] at h ⊢
    obtain ⟨o, ho, h⟩ := h
    exact ⟨o, hL _ _ _ _ _ (fun s' o' h' => ih blk s' some some o' (fun _ h => h) h') ho, hk _ h⟩
  | exit id => intro blk β s k1 k2 y hk h; exact hk _ h
  | ret => intro blk β s k1 k2 y hk h; exact hk _ h
  | _ => intro blk β s k1 k2 y hk h; simp [eA] at h
theorem aTX {H : FuncId → gB} {loop : ((St m) → Option (Out m)) → ((St m) → Option (St m)) → (St m) → Option (Out m)} (hL : Up loop) {f : FuncId} {a : List (SV m)} {b : List (List (SV m))} {r : (SV m) × List (List (SV m))} (h : aT P D H loop f a b = some r) : aOM P D H loop f a b = some r := by
  unfold aT at h
  unfold aOM
  cases hfn : P.funcs[f]? with
  | none => rw [hfn] at h; simp at h
  | some fn =>
    rw [hfn] at h
    simp only at h ⊢
    cases hc : fn.body with
    | none => rw [hc] at h; simp at h
    | some c =>
      rw [hc] at h
      simp only at h ⊢
      exact aNT hL c 0 _ _ _ r (fun _ h => aNZ h) h
theorem aMG {T : (aLb m)} {H : FuncId → gB} {f : FuncId} {a : List (SV m)} {b : List (List (SV m))} {r : (SV m) × List (List (SV m))} (hT : T f = none) (h : aT P (den P T H) H bA f a b = some r) : den P T H f a b = some r :=
  aUU hT (aTX aRJ h)
end
end Go.Vs
end
section
namespace Go.Vs
variable {m : Bool}
def sub : Code → List Nat → Code
  | c, [] => c
  | .seq a b, n :: r => if n = 0 then sub a r else sub b r
  | .cond _ a b, n :: r => if n = 0 then sub a r else sub b r
  | .block _ a, _ :: r => sub a r
  | .loop a, _ :: r => sub a r
  | c, _ => c
def yO (P : Program) (f : FuncId) : Code := match P.funcs[f]? with | some fn => fn.body.getD .skip | none => .skip
def xZ (P : Program) (f : FuncId) : Func := (P.funcs[f]?).getD default
structure Tab where
  mv : List (List Nat)
  boxed : List (List Nat)
  take : List (List Nat)
  clear : List (Nat × List Nat)
  drop : List (Nat × List Nat)
  after : List (List Nat)
  afterB : List (List Nat)
  condA : List (Nat × List Nat × List Nat)
  condB : List (Nat × List Nat × List Nat)
  fz : List (Nat × List Nat)
def Tab.hints (t : Tab) : gB :=
  { nt := 0
    mv := fun r i => (t.mv.getD r []).contains i
    pure := fun r i => !(t.boxed.getD r []).contains i
    take := fun r i => (t.take.getD r []).contains i
    clear := fun b => ((t.clear.find? fun p => p.1 == b).map (·.2)).getD []
    drop := fun b => ((t.drop.find? fun p => p.1 == b).map (·.2)).getD []
    after := fun r => t.after.getD r []
    afterB := fun r => t.afterB.getD r []
    condA := fun b => ((t.condA.find? fun p => p.1 == b).map (·.2)).getD ([], [])
    condB := fun b => ((t.condB.find? fun p => p.1 == b).map (·.2)).getD ([], [])
    fz := fun b => ((t.fz.find? fun p => p.1 == b).map (·.2)).getD [] }
def aV1 : Tab := ⟨[], [], [], [], [], [], [], [], [], []⟩
end Go.Vs
end
section
namespace Go.Vs
variable {m : Bool}
section
variable {α β : Type}
theorem eF (b : Bool) (x : Option α) (f : α → Option β) : (aA b x).bind f = aA b (x.bind f) := by cases b <;> rfl
theorem aEF (b : Bool) (x y : Option α) (f : α → Option β) : (aB b x y).bind f = aB b (x.bind f) (y.bind f) := by cases b <;> rfl
theorem aKV (v : (SV m)) (k : Bool → Option α) (f : α → Option β) : (oM v k).bind f = oM v fun b => (k b).bind f := by unfold oM; split <;> rfl
theorem aOg (k0 : IntKind) (l : (aC m)) (k : Int → Option α) (f : α → Option β) : (dG k0 l k).bind f = dG k0 l fun n => (k n).bind f := by
  unfold dG; split
  · split <;> rfl
  · rfl
theorem aM4 (l : (aC m)) (k : Bool → Option α) (f : α → Option β) : (dY l k).bind f = dY l fun n => (k n).bind f := by unfold dY; split <;> rfl
theorem aNO (l : (aC m)) (k : ByteArray → Option α) (f : α → Option β) : (cE l k).bind f = cE l fun n => (k n).bind f := by unfold cE; split <;> rfl
theorem aTG (l : (aC m)) (k : Fl m → List (List (aC m)) → Option α) (f : α → Option β) : (slK l k).bind f = slK l fun c n => (k c n).bind f := by unfold slK; split <;> rfl
theorem aHG (P : Program) (t : TypeId) (l : (aC m)) (k : (aC m) → Option α) (f : α → Option β) : (aKY P t l k).bind f = aKY P t l fun n => (k n).bind f := by
  unfold aKY
  split
  · exact aOg _ _ _ _
  · exact aM4 _ _ _
  · exact aNO _ _ _
  · exact aTG _ _ _
  · rfl
theorem aPX (e : List (aC m)) (p : Nat) (k : (aC m) → Option α) (f : α → Option β) : (atK e p k).bind f = atK e p fun n => (k n).bind f := by unfold atK; split <;> rfl
theorem aBy (P : Program) : ∀ (ts : List TypeId) (e : List (aC m)) (p : Nat) (k : List (aC m) → Option α) (f : α → Option β), (vJ P ts e p k).bind f = vJ P ts e p fun n => (k n).bind f
  | [], e, p, k, f => rfl
  | t :: ts, e, p, k, f => by
    simp only [vJ]
    rw [aPX]
    congr 1
    funext l
    rw [aHG]
    congr 1
    funext l'
    exact aBy P ts e (p + 1) _ f
theorem aL1 (P : Program) (t : TypeId) (e : List (aC m)) (p : Nat) (k : (SV m) → Option α) (f : α → Option β) : (aMr P t e p k).bind f = aMr P t e p fun n => (k n).bind f := by
  unfold aMr
  split
  · rw [Option.bind_assoc]
    congr 1
    funext ts
    rw [Option.bind_assoc]
    congr 1
    funext n
    split
    · exact aBy P ts e p _ f
    · rfl
  · rw [aPX]
    congr 1
    funext l
    exact aHG P t l _ f
theorem zV (v : (SV m)) (k : (aC m) → Option α) (f : α → Option β) : (aM v k).bind f = aM v fun n => (k n).bind f := by unfold aM; split <;> rfl
theorem aMc (v : (SV m)) (k : Fl m → List (List (aC m)) → Option α) (f : α → Option β) : (kO v k).bind f = kO v fun c n => (k c n).bind f := by unfold kO; split <;> rfl
theorem aKF (e : TypeId) (v : (SV m)) (k : List (List (aC m)) → Option α) (f : α → Option β) : (pN e v k).bind f = pN e v fun n => (k n).bind f := by
  unfold pN; split
  · split <;> rfl
  · rfl
theorem aP9 (v : (SV m)) (k : List (aC m) → Option α) (f : α → Option β) : (fA v k).bind f = fA v fun n => (k n).bind f := by unfold fA; split <;> rfl
theorem aPs (v : (SV m)) (k : Option α) (f : α → Option β) : (aHg v k).bind f = aHg v (k.bind f) := by unfold aHg; split <;> rfl
theorem aPA (v : (SV m)) (k : List (SV m) → Option α) (f : α → Option β) : (lV v k).bind f = lV v fun n => (k n).bind f := by unfold lV; split <;> rfl
theorem aMV (l : List (SV m)) (k : (SV m) → List (SV m) → Option α) (f : α → Option β) : (cY l k).bind f = cY l fun v r => (k v r).bind f := by unfold cY; split <;> rfl
theorem aMI (l : List (SV m)) (k : Option α) (f : α → Option β) : (hM l k).bind f = hM l (k.bind f) := by unfold hM; split <;> rfl
theorem aFi (P : Program) (own : Bool) (t : TypeId) (v : (SV m)) (k : (SV m) → Option α) (f : α → Option β) : (aEh P own t v k).bind f = aEh P own t v fun n => (k n).bind f := by
  unfold aEh
  split
  · split
    · exact aKF _ _ _ _
    · exact aMc _ _ _
  · rw [aP9]
    congr 1
    funext cs
    rw [Option.bind_assoc]
    congr 1
    funext ts
    rw [eF]
    congr 1
    exact aBy P ts cs 0 _ f
  · exact aPs _ _ _
  · rw [zV]
    congr 1
    funext l
    exact aHG P t l _ f
  · rfl
theorem aKQ (P : Program) : ∀ (ts : List TypeId) (l : List (SV m)) (k : List (SV m) → Option α) (f : α → Option β), (aFv P ts l k).bind f = aFv P ts l fun n => (k n).bind f
  | [], l, k, f => aMI l _ f
  | t :: ts, l, k, f => by
    simp only [aFv]
    rw [aMV]
    congr 1
    funext v r
    rw [aFi]
    congr 1
    funext v'
    exact aKQ P ts r _ f
theorem aQH (P : Program) (own : Bool) (t : TypeId) (v : (SV m)) (k : (SV m) → Option α) (f : α → Option β) : (aOm P own t v k).bind f = aOm P own t v fun n => (k n).bind f := by
  unfold aOm
  split
  · rw [aPA]
    congr 1
    funext vs
    exact aKQ P _ vs _ f
  · exact aFi P own t v k f
theorem aQW (c d : (SV m)) (k : (SV m) → Option α) (f : α → Option β) : (aNR c d k).bind f = aNR c d fun n => (k n).bind f := by
  unfold aNR
  split
  · rw [zV]; congr 1; funext l; exact aOg _ _ _ _
  · rw [zV]; congr 1; funext l; exact aM4 _ _ _
  · rw [zV]; congr 1; funext l; exact aNO _ _ _
  · exact aMc _ _ _
  · exact aKF _ _ _ _
  · rfl
theorem aKO : ∀ (cs l : List (SV m)) (k : List (SV m) → Option α) (f : α → Option β), (aEW cs l k).bind f = aEW cs l fun n => (k n).bind f
  | [], l, k, f => aMI l _ f
  | c :: cs, l, k, f => by
    simp only [aEW]
    rw [aMV]
    congr 1
    funext v r
    rw [aQW]
    congr 1
    funext v'
    exact aKO cs r _ f
theorem aS6 (w : Bool) (c d : List (SV m)) (k : List (SV m) → Option α) (f : α → Option β) : (aU4 w c d k).bind f = aU4 w c d fun n => (k n).bind f := by
  cases w
  · exact aKO c d k f
  · rfl
theorem aK3 : ∀ (ws : List Bool) (cs l : List (List (SV m))) (k : List (List (SV m)) → Option α) (f : α → Option β), (aAE ws cs l k).bind f = aAE ws cs l fun n => (k n).bind f
  | [], _, l, k, f => by simp only [aAE]; unfold jT; split <;> rfl
  | w :: ws, [], l, k, f => by simp only [aAE]; unfold jT; split <;> rfl
  | w :: ws, c :: cs, l, k, f => by
    simp only [aAE]
    unfold mO
    split
    · rw [aS6]
      congr 1
      funext v'
      exact aK3 ws cs _ _ f
    · rfl
theorem aS3 (cs : List (SV m)) (p : Nat) (k : (SV m) → Option α) (f : α → Option β) : (aHw cs p k).bind f = aHw cs p fun n => (k n).bind f := by unfold aHw; split <;> rfl
theorem aQ9 (P : Program) (t : TypeId) (c : (SV m)) (k : (SV m) → Option α) (f : α → Option β) : (aNG P t c k).bind f = aNG P t c fun n => (k n).bind f := by
  unfold aNG; split
  · exact aFi P false t _ k f
  · rfl
theorem aPY (e : TypeId) (v : (SV m)) (k : List (List (aC m)) → Option α) (f : α → Option β) : (aCU e v k).bind f = aCU e v fun n => (k n).bind f := by
  unfold aCU; split
  · split <;> rfl
  · rfl
theorem aPT (i z : Nat) (v : (SV m)) (k : Nat → Nat → Option α) (f : α → Option β) : (aE1 i z v k).bind f = aE1 i z v fun a n => (k a n).bind f := by
  unfold aE1; split
  · split <;> rfl
  · rfl
theorem aN5 (P : Program) (own : Bool) (rk : Nat) (dst : Option Tmp) (t : TypeId) (v : (SV m)) (k : (SV m) → Option α) (f : α → Option β) : (aRm P own rk dst t v k).bind f = aRm P own rk dst t v fun n => (k n).bind f := by
  unfold aRm; split
  · split
    · rfl
    · exact aQH P own t v k f
  · rw [Option.bind_assoc]; congr 1; funext e; exact aPY _ _ _ _
  · exact aPT _ _ _ _ _
variable {P : Program} {D : (bK m)}
theorem aPz (s : (St m)) (own pu : Bool) (rk : Nat) (g : FuncId) (args : List (SV m)) (dst : Option Tmp) (t : TypeId) (k : (St m) → Option α) (f : α → Option β) : (aKv P D s own pu rk g args dst t k).bind f = aKv P D s own pu rk g args dst t fun n => (k n).bind f := by
  unfold aKv
  rw [eF]
  congr 1
  split
  · rw [eF, Option.bind_assoc]
    congr 1
    congr 1
    funext r
    exact aN5 _ _ _ _ _ _ _ _
  · rw [Option.bind_assoc]
    congr 1
    funext cs
    rw [eF, Option.bind_assoc]
    congr 1
    congr 1
    funext r
    rw [aK3]
    congr 1
    funext bs
    exact aN5 _ _ _ _ _ _ _ _
theorem aAb {nt : Nat} {mv pu ta : Bool} {o : Oper} {s : (St m)} (k : (St m) → Option α) (f : α → Option β) : (fO P D nt mv pu ta o s k).bind f = fO P D nt mv pu ta o s fun n => (k n).bind f := by
  rw [aFA, aFA, Option.bind_assoc]
theorem aMe (x : Option (Bool × (SV m))) (k : (SV m) → Option α) (f : α → Option β) : (x.bind fun p => aA p.1 (k p.2)).bind f = x.bind fun p => aA p.1 ((k p.2).bind f) := by
  rw [Option.bind_assoc]; congr 1; funext p; exact eF _ _ _
theorem aMz {nt : Nat} {mv pu ta : Bool} {rk : Nat} {o : Oper} {s : (St m)} (k : (St m) → Option α) (f : α → Option β) : (fS P D nt mv pu ta rk o s k).bind f = fS P D nt mv pu ta rk o s fun n => (k n).bind f := by
  cases hop : o.op
  case pick c x z =>
    simp only [fS, hop]
    rw [aKV]
    congr 1
    funext b
    rw [aEF]
  case load t x =>
    simp only [fS, hop]
    split
    · exact aL1 P t _ _ _ f
    · rw [eF]
      congr 1
      split
      · rw [Option.bind_assoc]
        congr 1
        funext cs
        rw [aS3]
        congr 1
        funext c
        exact aQ9 P t c _ f
      · rw [Option.bind_assoc]
        congr 1
        funext cs
        rw [Option.bind_assoc]
        congr 1
        funext n
        rw [eF]
        unfold aVp
        rw [Option.bind_assoc]
        congr 2
        funext e
        exact aL1 P t e 0 _ f
      · exact aAb k f
    · exact aAb k f
  case store t x y =>
    simp only [fS, hop]
    split
    · rw [Option.bind_assoc]
      congr 1
      funext cs
      rw [Option.bind_assoc]
      congr 1
      funext n
      rw [eF, eF]
    · exact aAb k f
  case makeSlice t l c =>
    simp only [fS, hop]
    split
    · split
      · rw [eF, Option.bind_assoc]
        congr 1
        congr 1
        funext p
        exact eF _ _ _
      · rfl
    · rfl
  case binOp op t x z u => simp only [fS, hop]; exact aMe _ (fun v => k (s.put o.dst v)) f
  case convert src dst x => simp only [fS, hop]; exact aMe _ (fun v => k (s.put o.dst v)) f
  case slice t x lo hi mx =>
    cases mx with
    | some mx =>
      simp only [fS, hop]
      rw [Option.bind_assoc]; congr 1; funext l
      rw [Option.bind_assoc]; congr 1; funext h
      rw [Option.bind_assoc]; congr 1; funext c
      rw [Option.bind_assoc]; congr 1; funext p
      exact eF _ _ _
    | none =>
      simp only [fS, hop]
      rw [Option.bind_assoc]; congr 1; funext l
      rw [Option.bind_assoc]; congr 1; funext h
      rw [Option.bind_assoc]; congr 1; funext p
      exact eF _ _ _
  case indexAddr t x i => simp only [fS, hop]; exact aMe _ (fun v => k (s.put o.dst v)) f
  case index t x i => simp only [fS, hop]; exact aMe _ (fun v => k (s.put o.dst v)) f
  case call c =>
    cases hc : c.callee with
    | invoke r m => simp only [fS, hop, hc]; exact aAb k f
    | value g =>
      simp only [fS, hop, hc]
      split
      · rw [eF, aPz]
      · rfl
    | builtin b =>
      cases b
      case append =>
        simp only [fS, hop, hc]
        split
        · rename_i x z _
          exact aMe _ (fun v => k ((s.take x).put o.dst v)) f
        · rfl
      case clear =>
        simp only [fS, hop, hc]
        split
        · split
          · rw [Option.bind_assoc]; congr 1; funext cs
            rw [Option.bind_assoc]; congr 1; funext t
            rw [Option.bind_assoc]; congr 1; funext e
            rw [Option.bind_assoc]; congr 1; funext ze
            rw [eF, eF]
          · rfl
        · rfl
      all_goals (simp only [fS, hop, hc]; exact aAb k f)
  all_goals (simp only [fS, hop]; exact aAb k f)
theorem aQZ {nt : Nat} {mv pu ta : Bool} {rk : Nat} {ops : Array Oper} {o : Oper} {s : (St m)} (k : (St m) → Option α) (f : α → Option β) : (aJT P D nt mv pu ta rk ops o s k).bind f = aJT P D nt mv pu ta rk ops o s fun n => (k n).bind f := by
  unfold aJT
  split
  · exact aMz k f
  · split
    · unfold aPe
      split
      · rw [aEF, aMz]
      · rfl
      · rfl
    · rfl
theorem aKH {nt : Nat} {mv pu ta : Nat → Bool} {rk : Nat → Nat} {ops : Array Oper} : ∀ (l : List Oper) (i : Nat) (s : (St m)) (k : (St m) → Option α) (f : α → Option β), (aA7 P D nt mv pu ta rk ops l i s k).bind f = aA7 P D nt mv pu ta rk ops l i s fun n => (k n).bind f
  | [], i, s, k, f => rfl
  | o :: l, i, s, k, f => by
    simp only [aA7]
    rw [aQZ]
    congr 1
    funext s'
    exact aKH l (i + 1) s' k f
end
theorem aM0 {P : Program} {D : (bK m)} {H : gB} {loop : ((St m) → Option (Out m)) → ((St m) → Option (St m)) → (St m) → Option (Out m)} : ∀ (c : Code) (blk : Nat) {β γ : Type} (s : (St m)) (k : (Out m) → Option β) (f : β → Option γ), (eA P D H loop blk c s k).bind f = eA P D H loop blk c s fun o => (k o).bind f := by
  intro c
  induction c with
  | skip => intro blk β γ s k f; rfl
  | region id ops draw =>
    intro blk β γ s k f
    simp only [eA, sX]
    rw [eF, aKH]
  | seq a b iha ihb =>
    intro blk β γ s k f
    simp only [eA]
    rw [iha]
    congr 1
    funext o
    cases o with
    | norm s' => exact ihb blk s' k f
    | exit id s' => rfl
    | ret s' => rfl
  | cond x a b iha ihb =>
    intro blk β γ s k f
    simp only [eA, sX]
    rw [aKV]
    congr 1
    funext t
    rw [aEF, iha, ihb]
  | block id a ih =>
    intro blk β γ s k f
    simp only [eA]
    rw [ih]
    congr 1
    funext o
    cases o with
    | norm s' => rfl
    | exit id' s' => simp only [uJ]; split <;> rfl
    | ret s' => rfl
  | loop a ih => intro blk β γ s k f; simp only [eA]; rw [Option.bind_assoc]
  | exit id => intro blk β γ s k f; rfl
  | ret => intro blk β γ s k f; rfl
  | _ => intro blk β γ s k f; rfl
def aVf (ts bs : List Nat) (L : (St m) → Option (Out m)) : (Out m) → Option (Out m)
  | .norm s => (s.again ts bs).bind L
  | .exit id s => some (.exit id s)
  | .ret s => some (.ret s)
def aQC (P : Program) (D : (bK m)) (H : gB) (loop : ((St m) → Option (Out m)) → ((St m) → Option (St m)) → (St m) → Option (Out m)) (blk : Nat) (c : Code) (L : (St m) → Option (Out m)) (s : (St m)) : Option (Out m) :=
  (s.again (H.clear blk) (H.drop blk)).bind fun s => eA P D H loop blk c s (aVf (H.clear blk) (H.drop blk) L)
noncomputable def aNN (P : Program) (D : (bK m)) (H : gB) (blk : Nat) (c : Code) : (St m) → Option (Out m) := bA (fun s => eA P D H bA blk c s some) (fun s => s.again (H.clear blk) (H.drop blk))
theorem aEs {α : Type} (x : α) (ts : List Nat) : ∀ (l : List α), (∀ t ∈ ts, l[t]? = none ∨ l[t]? = some x) → ts.foldl (fun l t => l.set t x) l = l := by
  induction ts with
  | nil => intro l _; rfl
  | cons t ts ih =>
    intro l h
    have h0 : l.set t x = l := by
      rcases h t (by simp) with h | h
      · rw [List.set_eq_of_length_le (by simpa using h)]
      · apply List.ext_getElem?
        intro i
        by_cases hi : t = i
        · subst hi
          rw [List.getElem?_set_self (List.getElem?_eq_some_iff.1 h).1, h]
        · rw [List.getElem?_set_ne hi]
    rw [List.foldl_cons, h0]
    exact ih l fun u hu => h u (by simp [hu])
theorem aGC {α : Type} (x : α) (ts : List Nat) : ∀ (l : List α), ∀ t ∈ ts, (ts.foldl (fun l t => l.set t x) l)[t]? = none ∨ (ts.foldl (fun l t => l.set t x) l)[t]? = some x := by
  have aCI : ∀ (ts : List Nat) (l : List α) (t : Nat), (l[t]? = none ∨ l[t]? = some x) → ((ts.foldl (fun l t => l.set t x) l)[t]? = none ∨ (ts.foldl (fun l t => l.set t x) l)[t]? = some x) := by
    intro ts
    induction ts with
    | nil => intro l t h; exact h
    | cons u ts ih =>
      intro l t h
      rw [List.foldl_cons]
      refine ih _ t ?_
      by_cases hu : u = t
      · subst hu
        by_cases hl : u < l.length
        · right; exact List.getElem?_set_self hl
        · left; exact List.getElem?_eq_none (by simpa using hl)
      · rw [List.getElem?_set_ne hu]; exact h
  induction ts with
  | nil => intro l t h; simp at h
  | cons u ts ih =>
    intro l t ht
    rw [List.foldl_cons]
    by_cases h : t ∈ ts
    · exact ih _ t h
    · have : t = u := by
        rcases List.mem_cons.1 ht with h' | h'
        · exact h'
        · exact absurd h' h
      subst this
      refine aCI ts _ t ?_
      by_cases hl : t < l.length
      · right; exact List.getElem?_set_self hl
      · left; exact List.getElem?_eq_none (by simpa using hl)
theorem aQy (s : (St m)) (ts bs : List Nat) : (s.forget ts bs).forget ts bs = s.forget ts bs := by
  unfold St.forget
  congr 1
  · exact aEs _ _ _ (aGC _ _ _)
  · exact aEs _ _ _ (aGC _ _ _)
theorem aRj {s c : (St m)} {ts bs : List Nat} (h : s.again ts bs = some c) : c.again ts bs = some c := by
  unfold St.again at h ⊢
  obtain ⟨h1, h2⟩ := aU h
  simp only [Option.some.injEq] at h2
  subst h2
  rw [aQy, h1]
  rfl
theorem aPO (P : Program) (D : (bK m)) (H : gB) (blk : Nat) (c : Code) (s : (St m)) : aNN P D H blk c s = (s.again (H.clear blk) (H.drop blk)).bind (aNN P D H blk c) := by
  unfold aNN
  rw [aJ9]
  cases h : s.again (H.clear blk) (H.drop blk) with
  | none => rfl
  | some c' =>
    simp only [Option.bind_some]
    rw [aJ9 _ _ c', aRj h]
    rfl
theorem aQS (P : Program) (D : (bK m)) (H : gB) (blk : Nat) (c : Code) (s : (St m)) : aNN P D H blk c s = aQC P D H bA blk c (aNN P D H blk c) s := by
  show bA _ _ s = _
  rw [aJ9]
  unfold aQC
  congr 1
  funext s'
  rw [aM0]
  congr 1
  funext o
  cases o with
  | norm s2 => exact aPO P D H blk c s2
  | exit id s2 => rfl
  | ret s2 => rfl
end Go.Vs
end
section
namespace Go.Vs
variable {m : Bool}
def gJ : Nat → Code → List Nat → Nat
  | b, _, [] => b
  | b, .seq x y, n :: r => if n = 0 then gJ b x r else gJ b y r
  | b, .cond _ x y, n :: r => if n = 0 then gJ b x r else gJ b y r
  | _, .block id x, _ :: r => gJ id x r
  | b, .loop x, _ :: r => gJ b x r
  | b, _, _ => b
def aL0 {β : Type} (s : St m) (ts bs : List Nat) (k : (St m) → Option β) : Option β := aA ((s.forget ts bs).noBox bs) (k (s.forget ts bs))
theorem aMk {β : Type} (s : St m) (ts bs : List Nat) (k : (St m) → Option β) : (s.again ts bs).bind k = aL0 s ts bs k := by
  unfold St.again aL0
  cases (s.forget ts bs).noBox bs <;> rfl
def aKi {β : Type} (ts bs : List Nat) (L : (St m) → Option β) (k : (Out m) → Option β) : (Out m) → Option β
  | .norm s => aL0 s ts bs L
  | .exit id s => k (.exit id s)
  | .ret s => k (.ret s)
noncomputable def gA {β : Type} (P : Program) (D : (bK m)) (H : gB) : Nat → Code → List Nat → ((Out m) → Option β) → (Out m) → Option β
  | _, _, [], k => k
  | b, .seq x y, n :: r, k => if n = 0 then gA P D H b x r (aNd (fun s => eA P D H bA b y s k) k) else gA P D H b y r k
  | b, .cond _ x y, n :: r, k => if n = 0 then gA P D H b x r k else gA P D H b y r k
  | _, .block id x, _ :: r, k => gA P D H id x r (uJ id k)
  | b, .loop x, _ :: r, k => gA P D H b x r (aKi (H.clear b) (H.drop b) (fun s => eA P D H bA b (.loop x) s k) k)
  | _, _, _, k => k
noncomputable def atF (P : Program) (D : (bK m)) (H : FuncId → gB) (f : FuncId) (p : List Nat) (n : Nat) (s : (St m)) : Option ((SV m) × List (List (SV m))) :=
  eA P D ((H f).fit (xZ P f).ntmps) bA (gJ 0 (yO P f) p) (sub (yO P f) p) s (gA P D ((H f).fit (xZ P f).ntmps) 0 (yO P f) p (aOb P (xZ P f) n))
theorem aSw {β : Type} (P : Program) (D : (bK m)) (H : gB) (b : Nat) (c : Code) (s : (St m)) (k : (Out m) → Option β) :
    eA P D H bA b (.loop c) s k = (s.again (H.clear b) (H.drop b)).bind fun s => eA P D H bA b c s (aKi (H.clear b) (H.drop b) (fun s => eA P D H bA b (.loop c) s k) k) := by
  have h0 : ∀ s, eA P D H bA b (.loop c) s k = (aNN P D H b c s).bind k := fun s => rfl
  rw [h0, aQS]
  unfold aQC
  rw [Option.bind_assoc]
  congr 1
  funext s'
  rw [aM0]
  congr 1
  funext o
  cases o with
  | norm s2 =>
    simp only [aVf, aKi, ← aMk, Option.bind_assoc]
    congr 1
  | exit id s2 => rfl
  | ret s2 => rfl
end Go.Vs
end
section
namespace Go.Vs
variable {m : Bool}
section
variable {β : Type}
def qZ (P : Program) (D : (bK m)) (H : gB) (nm : List (List Nat)) (J : List Nat × (St m) → Option β) : List Nat → Nat → Code → (St m) → ((Out m) → Option β) → Option β
  | _, _, .skip, s, k => k (.norm s)
  | _, _, .region id ops draw, s, k => aA (!draw || aAf (H.mv id) (H.pure id) (H.take id) ops) (wT (St.freeze H.nt s (H.fz (4194304 + id))) fun s => aA7 P D H.nt (H.mv id) (H.pure id) (H.take id) (aWb H id) ops ops.toList 0 s fun s' => wT (St.freeze H.nt (s'.tidy (H.after id) (H.afterB id)) (H.fz id)) fun s' => k (.norm s'))
  | r, blk, .seq a b, s, k =>
    if nm.contains (0 :: r).reverse then J ((0 :: r).reverse, s) else qZ P D H nm J (0 :: r) blk a s (aNd (fun s' => if nm.contains (1 :: r).reverse then J ((1 :: r).reverse, s') else qZ P D H nm J (1 :: r) blk b s' k) k)
  | r, blk, .cond c a b, s, k => oM (s.eval c) fun t => aB t
      (wT (s.dropC H.condA c) fun s => if nm.contains (0 :: r).reverse then J ((0 :: r).reverse, s) else qZ P D H nm J (0 :: r) blk a s k)
      (wT (s.dropC H.condB c) fun s => if nm.contains (1 :: r).reverse then J ((1 :: r).reverse, s) else qZ P D H nm J (1 :: r) blk b s k)
  | r, _, .block id a, s, k => if nm.contains (0 :: r).reverse then J ((0 :: r).reverse, s) else qZ P D H nm J (0 :: r) id a s (uJ id k)
  | r, blk, .loop a, s, k => aL0 s (H.clear blk) (H.drop blk) fun s => if nm.contains (0 :: r).reverse then J ((0 :: r).reverse, s) else qZ P D H nm J (0 :: r) blk a s (aKi (H.clear blk) (H.drop blk) (fun s => J (r.reverse, s)) k)
  | _, _, .exit id, s, k => k (.exit id s)
  | _, _, .ret, s, k => k (.ret s)
  | _, _, _, _, _ => none
theorem kJ : ∀ (p : List Nat) (c : Code) (q : List Nat), sub c (p ++ q) = sub (sub c p) q
  | [], c, q => by simp [sub]
  | n :: p, c, q => by
    cases c <;> simp only [List.cons_append, sub]
    case seq a b => split <;> exact kJ p _ q
    case cond x a b => split <;> exact kJ p _ q
    case block id a => exact kJ p _ q
    case loop a => exact kJ p _ q
    all_goals (cases q <;> rfl)
theorem iS : ∀ (p : List Nat) (b : Nat) (c : Code) (q : List Nat), gJ b c (p ++ q) = gJ (gJ b c p) (sub c p) q
  | [], b, c, q => by simp [sub, gJ]
  | n :: p, b, c, q => by
    cases c <;> simp only [List.cons_append, sub, gJ]
    case seq x y => split <;> exact iS p _ _ q
    case cond x x y => split <;> exact iS p _ _ q
    case block id x => exact iS p _ _ q
    case loop x => exact iS p _ _ q
    all_goals (cases q <;> rfl)
theorem iT (P : Program) (D : (bK m)) (H : gB) : ∀ (p : List Nat) (b : Nat) (c : Code) (q : List Nat) (k : (Out m) → Option β), gA P D H b c (p ++ q) k = gA P D H (gJ b c p) (sub c p) q (gA P D H b c p k)
  | [], b, c, q, k => by simp [sub, gJ, gA]
  | n :: p, b, c, q, k => by
    cases c <;> simp only [List.cons_append, sub, gJ, gA]
    case seq x y => split <;> exact iT P D H p _ _ q _
    case cond x x y => split <;> exact iT P D H p _ _ q _
    case block id x => exact iT P D H p _ _ q _
    case loop x => exact iT P D H p _ _ q _
    all_goals (cases q <;> rfl)
theorem aQq {P : Program} {D : (bK m)} {H : gB} {nm : List (List Nat)} {J : List Nat × (St m) → Option β} {root : Code} {kE : (Out m) → Option β}
    (hJ : ∀ p s, J (p, s) = eA P D H bA (gJ 0 root p) (sub root p) s (gA P D H 0 root p kE)) :
    ∀ (c : Code) (r : List Nat) (blk : Nat) (s : (St m)) (k : (Out m) → Option β), sub root r.reverse = c → gJ 0 root r.reverse = blk → gA P D H 0 root r.reverse kE = k → qZ P D H nm J r blk c s k = eA P D H bA blk c s k := by
  intro c
  induction c with
  | skip => intro r blk s k _ _ _; rfl
  | region id ops draw => intro r blk s k _ _ _; rfl
  | seq a b iha ihb =>
    intro r blk s k hc hb hk
    have ha0 : sub root (0 :: r).reverse = a := by rw [List.reverse_cons, kJ, hc]; simp [sub]
    have ha1 : gJ 0 root (0 :: r).reverse = blk := by rw [List.reverse_cons, iS, hc, hb]; simp [gJ]
    have ha2 : gA P D H 0 root (0 :: r).reverse kE = aNd (fun s => eA P D H bA blk b s k) k := by rw [List.reverse_cons, iT, hc, hb, hk]; simp [gA]
    have hb0 : sub root (1 :: r).reverse = b := by rw [List.reverse_cons, kJ, hc]; simp [sub]
    have hb1 : gJ 0 root (1 :: r).reverse = blk := by rw [List.reverse_cons, iS, hc, hb]; simp [gJ]
    have hb2 : gA P D H 0 root (1 :: r).reverse kE = k := by rw [List.reverse_cons, iT, hc, hb, hk]; simp [gA]
    have eb : (fun s' => if nm.contains (1 :: r).reverse then J ((1 :: r).reverse, s') else qZ P D H nm J (1 :: r) blk b s' k) = fun s' => eA P D H bA blk b s' k := by
      funext s'
      split
      · rw [hJ, hb0, hb1, hb2]
      · exact ihb _ _ _ _ hb0 hb1 hb2
    simp only [qZ, eA]
    rw [eb]
    split
    · rw [hJ, ha0, ha1, ha2]
    · exact iha _ _ _ _ ha0 ha1 ha2
  | cond x a b iha ihb =>
    intro r blk s k hc hb hk
    have ha0 : sub root (0 :: r).reverse = a := by rw [List.reverse_cons, kJ, hc]; simp [sub]
    have ha1 : gJ 0 root (0 :: r).reverse = blk := by rw [List.reverse_cons, iS, hc, hb]; simp [gJ]
    have ha2 : gA P D H 0 root (0 :: r).reverse kE = k := by rw [List.reverse_cons, iT, hc, hb, hk]; simp [gA]
    have hb0 : sub root (1 :: r).reverse = b := by rw [List.reverse_cons, kJ, hc]; simp [sub]
    have hb1 : gJ 0 root (1 :: r).reverse = blk := by rw [List.reverse_cons, iS, hc, hb]; simp [gJ]
    have hb2 : gA P D H 0 root (1 :: r).reverse kE = k := by rw [List.reverse_cons, iT, hc, hb, hk]; simp [gA]
    simp only [qZ, eA, sX]
    congr 1
    funext t
    congr 1
    · split
      · rw [hJ, ha0, ha1, ha2]
      · exact iha _ _ _ _ ha0 ha1 ha2
    · split
      · rw [hJ, hb0, hb1, hb2]
      · exact ihb _ _ _ _ hb0 hb1 hb2
  | block id a ih =>
    intro r blk s k hc hb hk
    have ha0 : sub root (0 :: r).reverse = a := by rw [List.reverse_cons, kJ, hc]; simp [sub]
    have ha1 : gJ 0 root (0 :: r).reverse = id := by rw [List.reverse_cons, iS, hc, hb]; simp [gJ]
    have ha2 : gA P D H 0 root (0 :: r).reverse kE = uJ id k := by rw [List.reverse_cons, iT, hc, hb, hk]; simp [gA]
    simp only [qZ, eA]
    split
    · rw [hJ, ha0, ha1, ha2]
    · exact ih _ _ _ _ ha0 ha1 ha2
  | loop a ih =>
    intro r blk s k hc hb hk
    have ha0 : sub root (0 :: r).reverse = a := by rw [List.reverse_cons, kJ, hc]; simp [sub]
    have ha1 : gJ 0 root (0 :: r).reverse = blk := by rw [List.reverse_cons, iS, hc, hb]; simp [gJ]
    have eL : (fun s => J (r.reverse, s)) = fun s => eA P D H bA blk (.loop a) s k := by funext s'; rw [hJ, hc, hb, hk]
    have ha2 : gA P D H 0 root (0 :: r).reverse kE = aKi (H.clear blk) (H.drop blk) (fun s => eA P D H bA blk (.loop a) s k) k := by rw [List.reverse_cons, iT, hc, hb, hk]; simp [gA]
    simp only [qZ]
    rw [aSw, aMk, eL]
    unfold aL0
    congr 1
    simp only
    split
    · rw [hJ, ha0, ha1, ha2]
    · exact ih _ _ _ _ ha0 ha1 ha2
  | exit id => intro r blk s k _ _ _; rfl
  | ret => intro r blk s k _ _ _; rfl
  | _ => intro r blk s k _ _ _; rfl
end
noncomputable def zG {β : Type} (P : Program) (D : (bK m)) (H : gB) (nm : List (List Nat)) (J : List Nat × (St m) → Option β) : List Nat → Nat → Code → List Nat → ((Out m) → Option β) → (Out m) → Option β
  | _, _, _, [], k => k
  | r, b, .seq x y, n :: p, k => if n = 0 then zG P D H nm J (n :: r) b x p (aNd (fun s => if nm.contains (1 :: r).reverse then J ((1 :: r).reverse, s) else qZ P D H nm J (1 :: r) b y s k) k) else zG P D H nm J (n :: r) b y p k
  | r, b, .cond _ x y, n :: p, k => if n = 0 then zG P D H nm J (n :: r) b x p k else zG P D H nm J (n :: r) b y p k
  | r, _, .block id x, n :: p, k => zG P D H nm J (n :: r) id x p (uJ id k)
  | r, b, .loop x, n :: p, k => zG P D H nm J (n :: r) b x p (aKi (H.clear b) (H.drop b) (fun s => J (r.reverse, s)) k)
  | _, _, _, _, k => k
theorem aUi {β : Type} {P : Program} {D : (bK m)} {H : gB} {nm : List (List Nat)} {J : List Nat × (St m) → Option β} {root : Code} {kE : (Out m) → Option β}
    (hJ : ∀ p s, J (p, s) = eA P D H bA (gJ 0 root p) (sub root p) s (gA P D H 0 root p kE)) :
    ∀ (p : List Nat) (c : Code) (r : List Nat) (blk : Nat) (k : (Out m) → Option β), sub root r.reverse = c → gJ 0 root r.reverse = blk → gA P D H 0 root r.reverse kE = k → zG P D H nm J r blk c p k = gA P D H blk c p k := by
  intro p
  induction p with
  | nil => intro c r blk k _ _ _; simp [zG, gA]
  | cons n p ih =>
    intro c r blk k hc hb hk
    have hs : ∀ n, sub root (n :: r).reverse = sub c [n] := fun n => by rw [List.reverse_cons, kJ, hc]
    have hbl : ∀ n, gJ 0 root (n :: r).reverse = gJ blk c [n] := fun n => by rw [List.reverse_cons, iS, hc, hb]
    have hkk : ∀ n, gA P D H 0 root (n :: r).reverse kE = gA P D H blk c [n] k := fun n => by rw [List.reverse_cons, iT, hc, hb, hk]
    cases c with
    | seq x y =>
      have hb0 : sub root (1 :: r).reverse = y := by rw [hs]; simp [sub]
      have hb1 : gJ 0 root (1 :: r).reverse = blk := by rw [hbl]; simp [gJ]
      have hb2 : gA P D H 0 root (1 :: r).reverse kE = k := by rw [hkk]; simp [gA]
      have eb : (fun s => if nm.contains (1 :: r).reverse then J ((1 :: r).reverse, s) else qZ P D H nm J (1 :: r) blk y s k) = fun s => eA P D H bA blk y s k := by
        funext s'
        split
        · rw [hJ, hb0, hb1, hb2]
        · exact aQq hJ _ _ _ _ _ hb0 hb1 hb2
      simp only [zG, gA]
      rw [eb]
      by_cases hn : n = 0
      · subst hn
        simp only [if_true]
        exact ih _ _ _ _ (by rw [hs]; simp [sub]) (by rw [hbl]; simp [gJ]) (by rw [hkk]; simp [gA])
      · simp only [hn, if_false]
        exact ih _ _ _ _ (by rw [hs]; simp [sub, hn]) (by rw [hbl]; simp [gJ, hn]) (by rw [hkk]; simp [gA, hn])
    | cond z x y =>
      simp only [zG, gA]
      by_cases hn : n = 0
      · subst hn
        simp only [if_true]
        exact ih _ _ _ _ (by rw [hs]; simp [sub]) (by rw [hbl]; simp [gJ]) (by rw [hkk]; simp [gA])
      · simp only [hn, if_false]
        exact ih _ _ _ _ (by rw [hs]; simp [sub, hn]) (by rw [hbl]; simp [gJ, hn]) (by rw [hkk]; simp [gA, hn])
    | block id x =>
      simp only [zG, gA]
      exact ih _ _ _ _ (by rw [hs]; simp [sub]) (by rw [hbl]; simp [gJ]) (by rw [hkk]; simp [gA])
    | loop x =>
      have eL : (fun s => J (r.reverse, s)) = fun s => eA P D H bA blk (.loop x) s k := by funext s'; rw [hJ, hc, hb, hk]
      simp only [zG, gA]
      rw [eL]
      exact ih _ _ _ _ (by rw [hs]; simp [sub]) (by rw [hbl]; simp [gJ]) (by rw [hkk]; simp [gA])
    | _ => simp [zG, gA]
noncomputable def aAx (P : Program) (D : (bK m)) (H : FuncId → gB) (f : FuncId) (nm : List (List Nat)) (n : Nat) (J : List Nat × (St m) → Option ((SV m) × List (List (SV m)))) (x : List Nat × (St m)) : Option ((SV m) × List (List (SV m))) :=
  qZ P D ((H f).fit (xZ P f).ntmps) nm J x.1.reverse (gJ 0 (yO P f) x.1) (sub (yO P f) x.1) x.2 (zG P D ((H f).fit (xZ P f).ntmps) nm J [] 0 (yO P f) x.1 (aOb P (xZ P f) n))
theorem aL {P : Program} {D : (bK m)} {H : FuncId → gB} {f : FuncId} {n : Nat} {J : List Nat × (St m) → Option ((SV m) × List (List (SV m)))} (hJ : ∀ p s, J (p, s) = atF P D H f p n s) (nm : List (List Nat)) (x : List Nat × (St m)) :
    J x = aAx P D H f nm n J x := by
  obtain ⟨p, s⟩ := x
  rw [hJ]
  unfold aAx atF
  rw [aUi (root := yO P f) (fun p s => hJ p s) _ _ _ _ _ (by simp [sub]) (by simp [gJ]) (by simp [gA])]
  exact (aQq (root := yO P f) (fun p s => hJ p s) _ _ _ _ _ (by simp) (by simp) (by simp)).symm
end Go.Vs
namespace Go.Vs
theorem aF {m : Bool} {P : Program} {D : (bK m)} {H : FuncId → gB} {f : FuncId} {args : List (SV m)} {boxes : List (List (SV m))} {J : List Nat × (St m) → Option ((SV m) × List (List (SV m)))}
    {nb : Nat} (hb : ((P.funcs[f]?).bind (·.body)).isSome = true) (hJ : ∀ p s, J (p, s) = atF P D H f p nb s) (nm : List (List Nat)) (hnb : boxes.length = nb := by rfl) :
    aT P D H bA f args boxes = aAx P D H f nm nb J ([], St.freeze (xZ P f).ntmps (aBm (xZ P f) args boxes) ((H f).fz 1048576)) := by
  subst hnb
  rw [← aL hJ, hJ]
  unfold aT atF xZ yO
  cases hfn : P.funcs[f]? with
  | none => rw [hfn] at hb; simp at hb
  | some fn =>
    rw [hfn] at hb
    simp only [Option.bind_some] at hb
    cases hc : fn.body with
    | none => rw [hc] at hb; simp at hb
    | some c => simp [sub, gJ, gA, hc]
def bN {m : Bool} (n : Nat) : List (SV m) := List.replicate n .any
def noB {m : Bool} (n : Nat) : List (Option (List (SV m))) := List.replicate n none
end Go.Vs
end
section
namespace Go.Vs
namespace F
abbrev aWN := 3
abbrev aXW := 4
abbrev aYF := 5
abbrev aWT := 6
abbrev aX1 := 7
abbrev aYu := 8
abbrev aWR := 9
abbrev aXn := 10
abbrev aX6 := 11
abbrev aYL := 12
abbrev aXi := 13
abbrev aX2 := 14
abbrev aWV := 15
abbrev aWX := 16
abbrev aYU := 17
abbrev aYa := 18
abbrev aY6 := 19
abbrev aYh := 20
abbrev aXv := 21
abbrev aXL := 22
abbrev aW5 := 23
abbrev aW9 := 24
abbrev aXX := 25
abbrev aYG := 26
abbrev aYj := 27
abbrev aZo := 28
abbrev aXM := 29
abbrev aXT := 30
abbrev aWW := 31
abbrev aXc := 32
abbrev aW7 := 33
abbrev aXU := 34
abbrev aXt := 35
abbrev aY0 := 36
abbrev aYt := 37
abbrev aY7 := 38
abbrev aXQ := 39
abbrev aXD := 40
abbrev aXY := 41
abbrev aX7 := 42
abbrev aX3 := 43
abbrev aZg := 44
abbrev aYK := 45
abbrev aYT := 46
abbrev aYx := 47
abbrev aXS := 48
abbrev aW3 := 49
abbrev aYw := 50
abbrev aYJ := 51
abbrev aZr := 52
abbrev aZs := 53
abbrev aXf := 54
abbrev aYC := 55
abbrev aZh := 56
abbrev aY2 := 57
abbrev aYW := 58
abbrev aYB := 59
abbrev aYf := 60
abbrev aX5 := 61
abbrev aXw := 62
abbrev aWC := 63
abbrev aW8 := 64
abbrev aYi := 65
abbrev aYq := 66
abbrev aWU := 67
abbrev aYX := 68
abbrev aZu := 69
abbrev aZq := 70
abbrev aXg := 71
abbrev aYR := 72
abbrev aWH := 73
abbrev aWx := 74
abbrev aWO := 75
abbrev aZi := 76
abbrev aYy := 77
abbrev aYI := 78
abbrev aYO := 79
abbrev aXb := 80
abbrev aWP := 81
abbrev aXk := 82
abbrev aW0 := 83
abbrev aXj := 84
abbrev aXy := 85
abbrev aW6 := 86
abbrev aXN := 87
abbrev aXh := 88
abbrev aZn := 89
abbrev aY3 := 90
abbrev aYA := 91
abbrev aYM := 92
abbrev aZe := 93
abbrev aZk := 94
abbrev aYe := 95
abbrev aXJ := 96
abbrev aXR := 97
abbrev aXx := 98
abbrev aXB := 99
abbrev aW2 := 100
abbrev aXP := 101
abbrev aXl := 102
abbrev aY9 := 103
abbrev aY4 := 104
abbrev aXs := 105
abbrev aZc := 106
abbrev aXF := 107
abbrev aXu := 108
abbrev aYE := 109
abbrev aYN := 110
abbrev aWs := 111
abbrev aXr := 112
abbrev aWy := 113
abbrev aX0 := 114
abbrev aWv := 115
abbrev aYz := 116
abbrev aYZ := 117
abbrev aYV := 118
abbrev aZa := 119
abbrev aWY := 120
abbrev aZd := 121
abbrev aWu := 122
abbrev aYD := 123
abbrev aXV := 124
abbrev aZm := 125
abbrev aXG := 126
abbrev aWM := 127
abbrev aWB := 128
abbrev aXz := 129
abbrev aXa := 130
abbrev aXO := 131
abbrev aXo := 132
abbrev aY8 := 133
abbrev aY5 := 134
abbrev aXe := 135
abbrev aYs := 136
abbrev aXA := 137
abbrev aYb := 138
abbrev aYQ := 139
abbrev aYp := 140
abbrev aXd := 141
abbrev aYo := 142
abbrev aXE := 143
abbrev aYk := 144
abbrev aXm := 145
abbrev aYn := 146
abbrev aWA := 147
abbrev aWQ := 148
abbrev aWJ := 149
abbrev aWZ := 150
abbrev aWw := 151
abbrev aW1 := 152
abbrev aWr := 153
abbrev aXq := 154
abbrev aXC := 155
abbrev aWz := 156
abbrev aYg := 157
abbrev aXp := 158
abbrev aYm := 159
abbrev aXI := 160
abbrev aYl := 161
abbrev aYP := 162
abbrev aX4 := 163
abbrev aZf := 164
abbrev aYv := 165
abbrev aXZ := 166
abbrev aWL := 167
abbrev aWG := 168
abbrev aWI := 169
abbrev aYY := 170
abbrev aWt := 171
abbrev aWD := 172
abbrev aW4 := 173
abbrev aYH := 174
abbrev aX8 := 175
abbrev aYS := 176
abbrev aZj := 178
abbrev aWE := 179
abbrev aY1 := 180
abbrev aWS := 183
abbrev aYc := 184
abbrev aXH := 185
abbrev aWF := 191
abbrev aXK := 192
abbrev aWK := 198
end F
namespace T
abbrev aZz := 9
abbrev aZv := 58
abbrev aZb := 60
abbrev aX9 := 65
abbrev aYr := 81
abbrev aZx := 108
abbrev aZl := 111
abbrev aZy := 113
abbrev aZp := 118
abbrev aZw := 121
abbrev aZt := 125
abbrev aYd := 163
end T
end Go.Vs
end
section
open Go Go.Vs Go.Proofs
namespace Go.Vs
def Hs : FuncId → gB := fun f => match f with
  | 3 => Tab.hints ⟨[[],[],[],[],[],[],[],[],[],[],[5,6],[],[2],[3,4],[],[],[],[],[],[],[],[],[0],[],[],[],[],[],[],[],[],[],[],[3,5,6],[0,1],[],[],[0]],[[],[],[],[],[],[],[],[],[],[],[],[],[],[],[],[],[],[],[],[],[],[2],[2],[],[],[],[2],[],[2],[],[],[],[],[],[],[],[],[2]],[],[],[],[[0,6],[16,17],[],[],[19,20,21],[22],[],[24,25,26],[7,27],[],[29,30,31,32,33,34],[35,36],[37,38],[39,40,41,42],[43,44,45],[],[47,48,49,50],[],[52,53,54,55],[],[],[9,57,58,59],[10,60,61,62],[12,63,64,65,66,67,68,69],[],[],[71,72,73],[],[74,75,76],[77],[],[14,79,80],[],[1,2,3,82,83,84,85,86,87],[8,15,88,89,90],[],[],[11,92,93,94],[95],[],[13,14,97,98]],[],[(18,[18,2,1,3],[]),(23,[23,3,1,2,7],[]),(28,[28,2,1,3],[]),(46,[46,3,1,2,8,11,10,9],[]),(51,[51,9,10,11,8,2,1,3],[]),(56,[56,3,1,2,8,11,10,9],[]),(70,[70,11,8,2,1,3],[]),(78,[78,3,1,2,8,13,11,14],[]),(81,[81,11,13,8,2,1,3],[]),(91,[91,13,11],[]),(96,[96,13,14],[]),(99,[99],[])],[(18,[18],[]),(23,[23],[]),(28,[28],[]),(46,[46],[]),(51,[51],[]),(56,[56],[]),(70,[70],[]),(78,[78],[]),(81,[81],[]),(91,[91],[]),(96,[96],[]),(99,[99],[])],[]⟩
  | 4 => Tab.hints ⟨[],[],[],[],[],[[0,4],[5,6,7,8],[9],[],[11,12,13,14],[15],[],[2,17,18,19,20],[21],[],[1,23]],[[],[],[],[],[],[],[],[2]],[(10,[10,2,1],[2]),(16,[16,1,2],[2]),(22,[22,1],[])],[(10,[10],[]),(16,[16],[]),(22,[22],[])],[]⟩
  | 5 => Tab.hints ⟨[],[],[],[(0,[2,3,4,6,7,8,9,10,11,12,13,14,15,16,17,18,19,20,21,22,23,24,25,26])],[],[[4],[6,7,8,9],[10],[],[],[12,13,14],[16,17],[18,19,20,21,22,23],[24],[],[1,26]],[],[(11,[11,0,1],[]),(15,[15],[]),(25,[25,0,1,5],[])],[(11,[11],[]),(15,[15,0,5],[]),(25,[25],[])],[]⟩
  | 6 => Tab.hints ⟨[[1],[1],[],[0,1],[2,4,5],[],[],[],[],[],[],[],[0,15,17],[0,6,8],[0,1]],[],[[],[],[],[],[4]],[(0,[0,1,2,4,5,6,10,11,12,13,14,15,16,17,18,19,20,21,22,23,24,25,26,27,28,29,30,31,32,33,34,35,36,37,38,39,40,41,42,43,44,45,46,47,48,49,50,51,52,53,54,55,56,57,58,59,60,61,62,63,64,65,66,67,68,69,70,71,72,73,74])],[(0,[10,11])],[[0,6],[13],[14],[7,16],[1,2,17,18,19,20,21],[],[22,23,24],[26,27],[28,29,30,31,32],[33,34],[36,37,38,39,40,41,42,43,44,45,46,47],[12],[11,49,50,51,52,53,54,55,56,57,58,59,60,61,62,63,64,65],[10,66,67,68,69,70,71,72,73],[7,74]],[[],[],[],[],[],[],[],[],[],[],[],[],[11],[10]],[(15,[15,3,2,1],[3]),(25,[25],[]),(35,[35],[]),(48,[48],[])],[(15,[15],[]),(25,[25,9,3,8],[3]),(35,[35],[]),(48,[48,11],[11])],[]⟩
  | 7 => Tab.hints ⟨[],[],[],[],[],[[0],[],[4,5,6,7],[8,9,10,11],[1,12,13,14,15],[3,16]],[[],[],[],[],[1],[3]],[],[],[]⟩
  | 8 => Tab.hints ⟨[[0],[3],[],[],[],[],[0,1]],[],[],[(0,[1,2,5,6,7,8,9,10,11,12,13,14,15,16,17,18,19,20,21,22])],[],[[2],[5,6,7],[],[8,9,10],[12,13],[14,15,16,17,18,19,20,21],[3,22]],[[],[7]],[(11,[11],[])],[(11,[11,4,0],[])],[]⟩
  | 9 => Tab.hints ⟨[[1],[0],[2],[],[],[],[],[14],[8],[],[3,4]],[[],[],[],[],[],[],[],[15],[9]],[],[(0,[0,1,2,4,5,6,8,9,10,11,12,13,14,15,16,20,21,22,23,24,25,26,27,28,29,30,31,32,33,34,35,36,37,38,39,40,41,42,43,44,45,46,47,48,49,50,51,52,53,54,55,56,57,58,59,60,61,62,63,64,65,66,67,68,69,70])],[(0,[9,10])],[[0,6],[12,13],[1,2,14,15,16],[],[21,22],[23,24,25,26,27,28,29,30,31,32],[11,33,34,35,36,37,38],[10,40,41,42,43,44,45,46,47,48,49,50,51,52,53,54,55],[9,56,57,58,59,60,61,62,63,64,65],[66],[7,67,68,69,70]],[[],[13],[],[],[],[],[],[10],[9]],[(20,[20],[]),(39,[39],[])],[(20,[20,19,3,17,18],[3]),(39,[39,10],[10])],[]⟩
  | 10 => Tab.hints ⟨[],[],[],[(0,[2,3,4,6,7,8,9,10,11,12,13,14,15,16,17,18,19,20,21,22,23,24,25,26])],[],[[4],[6,7,8,9],[],[],[11,12,13],[15,16],[17,18,19,20,21,22,23,24,25]],[],[(10,[10,0,1],[]),(14,[14],[]),(26,[26,0,1,5],[])],[(10,[10],[]),(14,[14,0,1,5],[]),(26,[26],[])],[]⟩
  | 11 => Tab.hints ⟨[],[],[],[],[],[[0,1,4],[5,6,7,8,9],[],[11,12,13,14,15],[],[2,3,17,18,19,20,21]],[[],[],[],[],[],[2,3]],[(10,[10,2,3],[2,3]),(16,[16,3,2],[2,3]),(22,[22],[])],[(10,[10],[]),(16,[16],[]),(22,[22],[])],[]⟩
  | 12 => Tab.hints ⟨[],[],[],[(0,[2,3,4,6,7,8,9,10,11,12,13,14,15,16,17,18,19,20,21,22,23,24,25,26])],[],[[4],[6,7,8,9],[],[],[11,12,13],[15,16],[17,18,19,20,21,22,23,24,25]],[],[(10,[10,0,1],[]),(14,[14],[]),(26,[26,0,1,5],[])],[(10,[10],[]),(14,[14,0,1,5],[]),(26,[26],[])],[]⟩
  | 13 => Tab.hints ⟨[],[],[],[],[],[[0,4],[5,6,7,8],[9,10,11,12],[2,13,14,15,16],[1,17]],[[],[],[],[2]],[],[],[]⟩
  | 14 => Tab.hints ⟨[],[],[],[(0,[2,3,4,6,7,8,9,10,11,12,13,14,15,16,17,18,19,20,21,22,23,24,25,26,27,28,29,30,31,32,33,34,35,36,37,38,39,40,41,42,43,44,45,46,47,48,49,50,51,52,53,54,55,56,57,58,59,60,61,62,63,64])],[],[[4],[],[6,7,8],[10,11],[12,13,14,15,16],[17,18],[19,20,21,22,23,24],[25,26],[27,28,29,30,31,32],[33,34],[35,36,37,38,39,40],[41,42],[43,44,45,46,47,48,49],[50,51,52,53,54,55,56],[57,58,59,60,61,62,63],[1,64]],[],[(9,[9],[])],[(9,[9,5,0],[])],[]⟩
  | 15 => Tab.hints ⟨[],[],[],[(0,[2,3,4,6,7,8,9,10,11,12,13,14,15,16,17,18,19,20,21,22,23,24,25,26,27,28,29,30,31,32,33,34,35])],[],[[4],[],[6,7,8],[10,11],[12,13,14,15,16],[17,18],[19,20,21,22,23,24],[25,26],[27,28,29,30,31,32],[33,34],[1,35]],[],[(9,[9],[])],[(9,[9,5,0],[])],[]⟩
  | 16 => Tab.hints ⟨[],[],[],[(0,[2,3,4,6,7,8,9,10,11,12,13,14,15,16,17,18,19,20,21,22,23,24,25,26,27,28,29,30,31,32,33,34,35,36,37,38,39,40,41])],[],[[4],[],[6,7,8],[10,11],[12,13,14,15,16,17],[],[19,20],[21,22,23,24,25,26,27],[],[29,30],[31,32,33,34,35,36,37],[],[39,40],[1,41]],[],[(9,[9],[]),(18,[18,0,5,1],[]),(28,[28,5,0,1],[]),(38,[38,0,5,1],[])],[(9,[9,0,5],[]),(18,[18],[]),(28,[28],[]),(38,[38],[])],[]⟩
  | 17 => Tab.hints ⟨[],[],[],[(0,[2,3,4,6,7,8,9,10,11,12,13,14,15,16,17,18,19,20,21,22,23,24,25,26])],[],[[4],[6,7,8,9],[10],[],[],[12,13,14],[16,17],[18,19,20,21,22,23],[24],[],[1,26]],[],[(11,[11,0,1],[]),(15,[15],[]),(25,[25,0,1,5],[])],[(11,[11],[]),(15,[15,0,5],[]),(25,[25],[])],[]⟩
  | 18 => Tab.hints ⟨[],[],[],[(0,[2,3,4,6,7,8,9,10,11,12,13,14,15,16,17,18,19,20,21,22,23,24,25,26])],[],[[4],[6,7,8,9],[10],[],[],[12,13,14],[16,17],[18,19,20,21,22,23],[24],[],[1,26]],[],[(11,[11,0,1],[]),(15,[15],[]),(25,[25,0,1,5],[])],[(11,[11],[]),(15,[15,0,5],[]),(25,[25],[])],[]⟩
  | 19 => Tab.hints ⟨[],[],[],[],[],[[0,4],[5,6,7,8,9],[10],[],[12,13,14,15,16],[17],[],[19,20,21,22,23],[24],[],[26,27,28,29],[30],[],[32,33,34,35],[36],[],[2,38,39,40,41],[42],[],[1,44]],[[],[],[],[],[],[],[],[],[],[],[],[],[],[],[],[],[2]],[(11,[11,2,1],[2]),(18,[18,2,1],[2]),(25,[25,2,1],[2]),(31,[31,2,1],[2]),(37,[37,1,2],[2]),(43,[43,1],[])],[(11,[11],[]),(18,[18],[]),(25,[25],[]),(31,[31],[]),(37,[37],[]),(43,[43],[])],[]⟩
  | 20 => Tab.hints ⟨[],[],[],[(0,[1,2,5,6,7,8,9,10,11,12,13,14,15,16,17,18,19,20,21,22])],[],[[2],[],[],[5,6,7,8,9,10,11],[13,14],[15,16,17,18,19,20],[3,21,22]],[],[(12,[12],[])],[(12,[12,4,0],[])],[]⟩
  | 21 => Tab.hints ⟨[[1],[],[],[],[],[],[],[],[],[],[],[],[],[2],[],[0,6],[2,3,4,5],[0,1]],[],[[],[],[],[],[],[],[],[],[],[],[],[],[],[],[],[],[4]],[(0,[0,5,6,7,8,10,11,12,13,14,15,16,17,18,19,20,21,22,23,24,25,26,27,28,29,30,31,32,33,34,35,36,37,38,39,40,41,42,43,44,45,46,47,48,49,50,51,52,53,54,55,56,57,58,59,60,61,62,63])],[(0,[10,12])],[[0,8],[],[15,16,17],[19,20],[21,22,23,24],[25],[27,28,29],[30,31,32,33,34,35,36,37],[],[13],[12,39,40,41],[43,44,45],[46,47],[48,49],[50,51],[10,52,53,54,55,56,57],[11,14,58,59,60,61,62],[3,63]],[[],[],[],[],[],[],[],[],[],[],[12],[],[],[],[],[10]],[(18,[18],[]),(26,[26,11],[]),(42,[42,11],[]),(38,[38,11],[])],[(18,[18,9,4,1,2],[4]),(26,[26],[]),(42,[42],[]),(38,[38,12],[12])],[]⟩
  | 22 => Tab.hints ⟨[[],[],[2],[],[],[0],[6],[],[],[],[],[0],[0]],[],[],[(0,[0,1,3,4,5,7,8,11,12,13,14,15,16,17,18,19,20,21,22,23,24,25,26,27,28,29,30,31,32,33,34,35,36,37,38,39,40,41,42,43,44,45,46,47,48,49,50,51,52,53,54,55,56,57,58,59,60,61,62,63,64,65,66,67,68])],[],[[0,7],[11,12,13,14,15,16],[2,18,19,20],[1,21,22,23],[24,25,26,27,28,29,30,31,32,33,34,35,36,37,38,39,40,41,42],[44],[3,8,45,46,47,48,49,50],[],[51,52,53],[55,56],[57,58,59,60,61,62],[9,10,64,65,66,67],[68]],[[],[],[],[],[],[],[3]],[(17,[17,3,1],[3]),(43,[43,2,8,3],[3]),(54,[54],[]),(63,[63,2],[])],[(17,[17],[]),(43,[43],[]),(54,[54,2,9,10],[]),(63,[63],[])],[]⟩
  | 23 => Tab.hints ⟨[[1],[1],[1],[],[0,5],[],[],[],[],[],[0,7],[],[],[0,7],[],[0,7],[0,5],[0,1,2],[],[],[],[],[0,9],[0,1]],[],[],[(0,[0,5,6,7,8,12,13,14,15,16,17,18,19,20,21,22,23,24,25,26,27,28,29,30,31,32,33,34,35,36,37,38,39,40,41,42,43,44,45,46,47,48,49,50,51,52,53,54,55,56,57,58,59,60,61,62,63,64,65,66,67,68,69,70,71,72,73,74,75,76,77,78,79,80,81,82,83,84,85,86,87,88,89,90,91,92,93,94,95,96,97,98,99,100,101,102,103,104,105,106,107,108,109,110,111]),(2,[0,2,3,4,5,6,7,8,11,12,13,16,17,18,19,20,21,22,23,24,25,26,27,28,29,30,31,32,33,34,35,36,37,38,39,40,41,42,43,44,45,46,47,48,49,50,51,52,53,54,55,56,57,58,59,60,61,62,63,64,65,66,67,68,69,70,71,72,73,74,75,76,77,78,79,80,81,82,83,84,85,86,87,88,89,90,91,92,93,94,95,96,97,98,99,100,101,102,103,104,105,106,107,108,109,110,111])],[(0,[12])],[[0,8],[16],[17],[18,19,20,21,22,23,24],[1,9,26,27,28,29,30],[],[31,32,33],[35,36],[37,38,39,40],[41,42,43],[45,46,47,48,49,50,51],[52,53,54,55],[56],[58,59,60,61,62,63,64],[13,65,66,67,68,69,70,71,72,73],[75,76,77,78,79,80,81],[12,82,83,84,85,86],[2,87,88],[],[89,90,91],[93,94],[95,96,97,98,99,100],[102,103,104,105,106,107,108,109,110],[9,111]],[[],[],[],[],[],[],[],[],[],[],[],[],[],[],[],[],[12]],[(25,[25,3,2,4,10],[4]),(34,[34],[]),(44,[44],[]),(57,[57,13],[]),(74,[74],[]),(92,[92],[]),(101,[101],[])],[(25,[25],[]),(34,[34,11,4,3],[4]),(44,[44],[]),(57,[57],[]),(74,[74],[]),(92,[92,15,14,1,10],[]),(101,[101],[])],[]⟩
  | 24 => Tab.hints ⟨[[1],[1],[1],[],[0,5],[],[],[],[],[],[],[0,4],[],[0,6],[],[0,6],[],[0,6],[0,10,12],[0,1]],[],[],[(0,[0,4,5,6,10,11,12,13,14,15,16,17,18,19,20,21,22,23,24,25,26,27,28,29,30,31,32,33,34,35,36,37,38,39,40,41,42,43,44,45,46,47,48,49,50,51,52,53,54,55,56,57,58,59,60,61,62,63,64,65,66,67,68,69,70,71,72,73,74,75,76,77,78,79,80,81,82,83,84,85,86,87,88,89,90,91,92,93,94,95,96])],[(0,[11])],[[0,6],[14],[15],[16,17],[1,7,19,20,21,22,23],[],[24,25,26],[28,29],[30,31,32,33,34,35],[36,37,38,39,40,41,42,43,44,45],[46,47,48],[49,50,51,52],[12,53],[10,55,56,57,58,59,60],[61,62,63,64],[66,67,68,69,70,71],[13,72,73,74,75,76],[78,79,80,81,82,83],[10,11,84,85,86,87,88,89,90,91,92,93,94,95],[7,96]],[[],[],[],[],[],[],[],[],[],[],[],[],[],[],[],[],[],[],[11]],[(18,[18,8,2,3],[3]),(27,[27],[]),(54,[54,11,13],[11]),(65,[65],[]),(77,[77],[])],[(18,[18],[]),(27,[27,8,9,1,3,2],[3]),(54,[54],[]),(65,[65],[]),(77,[77],[])],[]⟩
  | 25 => Tab.hints ⟨[],[],[],[],[],[[0,2],[1,3],[6],[],[8],[],[4,10]],[[],[1]],[(5,[5,4],[]),(7,[7,4],[]),(9,[9],[])],[(5,[5],[]),(7,[7],[]),(9,[9],[])],[]⟩
  | 26 => Tab.hints ⟨[[0],[3],[],[],[],[],[0,1]],[],[],[(0,[1,2,5,6,7,8,9,10,11,12,13,14,15,16,17,18,19,20,21,22])],[],[[2],[5,6,7],[],[8,9,10],[12,13],[14,15,16,17,18,19,20,21],[3,22]],[[],[7]],[(11,[11],[])],[(11,[11,4,0],[])],[]⟩
  | 27 => Tab.hints ⟨[[0],[3],[],[],[],[],[0,1]],[],[],[(0,[1,2,5,6,7,8,9,10,11,12,13,14,15,16,17,18,19,20,21,22])],[],[[2],[5,6,7],[],[8,9,10],[12,13],[14,15,16,17,18,19,20,21],[3,22]],[[],[7]],[(11,[11],[])],[(11,[11,4,0],[])],[]⟩
  | 28 => Tab.hints ⟨[],[],[],[],[],[[0],[],[4,5,6],[7,8,9],[10,11,12],[13,14,15],[16,17,18,19],[20,21,22,23],[1,24,25,26,27],[3,28]],[[],[],[],[],[],[],[],[],[1],[3]],[],[],[]⟩
  | 29 => Tab.hints ⟨[[1],[],[],[2,3,4],[],[],[],[5],[],[0,1,2]],[[],[],[],[],[],[],[],[],[],[1]],[],[(0,[0,1,2,3,4,5,6,8,9,10,11,12,13,14,15,19,20,21,22,23,24,25,26,27,28,29,30,31,32,33,34,35])],[(0,[9])],[[0,6],[10],[],[1,2,3,12,13,14,15],[],[],[20,21,22],[8,9,23,24,25,26,27,28,29,30,31,32],[33],[7,34,35]],[],[(11,[11,2,1,3],[]),(19,[19],[])],[(11,[11],[]),(19,[19,18,16,17],[])],[(4194308,[45063]),(1048580,[4099]),(1048583,[4098]),(1048584,[4103]),(1048586,[532481])]⟩
  | 30 => Tab.hints ⟨[[],[],[1],[],[],[0]],[],[],[],[],[[0,7],[10,11,12,13,14,15],[17,18],[1,3,9,19,20,21,22,23,24],[25,26,27,28,29,30,31],[33],[2,8,34,35,36,37,38]],[[],[],[],[3],[],[],[8]],[(16,[16,2,1,3],[3]),(32,[32,2,8],[8])],[(16,[16],[]),(32,[32],[])],[]⟩
  | 31 => Tab.hints ⟨[[4,5]],[],[],[],[],[[0,1,4,5,6,7,8,9,10,11,12]],[],[],[],[]⟩
  | 32 => Tab.hints ⟨[[1],[0],[],[],[3,4],[],[],[],[],[],[],[],[],[0,1],[],[],[],[],[3,4]],[[],[],[],[2],[],[],[],[],[10],[],[6],[19],[],[],[],[],[7]],[],[(0,[0,5,6,7,8,10,11,12,13,14,15,16,17,18,19,20,21,22,23,24,25,26,27,28,29,30,31,35,36,37,38,39,40,41,42,43,44,45,46,47,48,49,50,51,52,53,54,55,56,57,58,59,60,61,62,63,64,65,66,67,68,69,70,71,72,73,74,75,76,77,78,79,80,81,82,83,84,85,86,87,88,89,90,91,92,93,94,95,96,97,98,99,100,101]),(2,[0,2,4,5,6,7,8,10,11,12,13,14,15,16,17,18,19,20,21,22,23,24,25,26,27,28,29,30,31,32,33,34,35,36,37,38,39,40,41,42,43,44,45,46,47,48,49,50,51,52,53,54,55,56,57,58,59,60,61,62,63,64,65,66,67,68,69,70,71,72,73,74,75,76,77,78,79,80,81,82,86,87,88,89,90,91,92,93,94,95,96,97,98,99,100,101])],[(0,[11])],[[0,8],[15,16],[17,18,19,20,21,22,23],[1,25,26,27],[9,28,29,30,31],[],[],[36,37,38],[10,39,40,41,42,43,44,45,46,47,48,49],[50,51,52,53],[54,55,56,57,58,59,60],[11,12,61,62,63,64,65,66,67,68,69,70,71,72,73,74,75,76,77,78,79,80],[81],[2,82],[],[87,88],[14,89,90,91,92,93,94,95,96],[97],[9,98,99,100,101]],[[],[16],[],[],[],[],[],[],[],[],[],[11]],[(24,[24,3,4,2],[4]),(35,[35],[]),(86,[86],[])],[(24,[24],[]),(35,[35,34,4,32,33],[4]),(86,[86,85,1,3,83,84],[])],[]⟩
  | 33 => Tab.hints ⟨[[1],[0],[],[],[3,4],[],[],[],[],[],[],[],[],[],[7],[],[3,4]],[[],[],[],[2],[],[],[],[],[],[],[],[3],[8],[9,13],[8]],[],[(0,[0,4,5,6,8,9,10,11,12,13,14,15,16,17,18,19,20,21,22,23,24,28,29,30,31,32,33,34,35,36,37,38,39,40,41,42,43,44,45,46,47,48,49,50,51,52,53,54,55,56,57,58,59,60,61,62,63,64,65,66,67,68,69,70,71,72,73,74,75,76,77,78,79,80,81,82,83,84])],[(0,[9,11])],[[0,6],[13,14],[15,16],[1,18,19,20],[7,21,22,23,24],[],[],[29,30,31],[32,33,34],[35,36,37,38,39,40,41],[12,42],[10,44,45,46,47],[48,49,50,51,52,53,54,55,56],[8,57,58,59,60,61,62,63,64,65,66,67,68,69,70],[9,10,11,71,72,73,74,75,76,77,78,79],[80],[7,81,82,83,84]],[[],[14],[],[],[],[],[],[],[],[],[],[],[],[],[9,11]],[(17,[17,3,2],[3]),(28,[28],[]),(43,[43,9,11,8],[9,11])],[(17,[17],[]),(28,[28,27,1,2,3,25,26],[3]),(43,[43],[])],[]⟩
  | 34 => Tab.hints ⟨[],[],[],[],[],[[0,2],[1,3],[6],[],[8],[],[4,10]],[[],[1]],[(5,[5,4],[]),(7,[7,4],[]),(9,[9],[])],[(5,[5],[]),(7,[7],[]),(9,[9],[])],[]⟩
  | 35 => Tab.hints ⟨[],[],[],[],[],[[0,1,4],[5,6,7,8],[],[10,11,12,13],[],[2,3,15,16,17,18]],[[],[],[],[],[],[2,3]],[(9,[9,2,3],[2,3]),(14,[14,3,2],[2,3]),(19,[19],[])],[(9,[9],[]),(14,[14],[]),(19,[19],[])],[]⟩
  | 36 => Tab.hints ⟨[],[],[],[(0,[2,3,4,6,7,8,9,10,11,12,13,14,15,16,17,18,19,20,21,22,23,24,25,26])],[],[[4],[6,7,8,9],[],[],[11,12,13],[15,16],[17,18,19,20,21,22,23,24,25]],[],[(10,[10,0,1],[]),(14,[14],[]),(26,[26,0,1,5],[])],[(10,[10],[]),(14,[14,0,1,5],[]),(26,[26],[])],[]⟩
  | 37 => Tab.hints ⟨[],[],[],[(0,[2,3,4,6,7,8,9,10,11,12,13,14,15,16,17,18,19,20,21,22,23,24,25,26])],[],[[4],[6,7,8,9],[],[],[11,12,13],[15,16],[17,18,19,20,21,22,23,24,25]],[],[(10,[10,0,1],[]),(14,[14],[]),(26,[26,0,1,5],[])],[(10,[10],[]),(14,[14,0,1,5],[]),(26,[26],[])],[]⟩
  | 38 => Tab.hints ⟨[],[],[],[],[],[[0,1,4],[5,6,7,8],[],[10,11,12,13],[],[15,16,17,18],[],[20,21,22,23],[],[25,26,27,28,29],[],[31,32,33,34,35],[],[2,3,37,38,39,40,41]],[[],[],[],[],[],[],[],[],[],[],[],[],[],[2,3]],[(9,[9,2,3],[2,3]),(14,[14,3,2],[2,3]),(19,[19,2,3],[2,3]),(24,[24,3,2],[2,3]),(30,[30,2,3],[2,3]),(36,[36,3,2],[2,3]),(42,[42],[])],[(9,[9],[]),(14,[14],[]),(19,[19],[]),(24,[24],[]),(30,[30],[]),(36,[36],[]),(42,[42],[])],[]⟩
  | 39 => Tab.hints ⟨[],[],[],[(0,[2,3,4,6,7,8,9,10,11,12,13,14,15,16,17,18,19,20,21,22,23,24,25,26,27,28,29,30,31,32,33,34,35,36,37,38,39,40,41,42,43,44,45,46,47,48,49,50,51,52,53,54,55,56,57,58,59,60,61,62,63,64,65,66,67,68,69,70,71,72,73,74,75,76,77,78,79,80,81,82,83,84,85,86,87,88,89,90,91,92,93,94,95])],[],[[4],[],[6,7,8],[10,11],[12,13,14,15,16],[17,18],[19,20,21,22,23,24,25],[26,27],[28,29,30,31,32,33],[34,35],[36,37,38,39,40,41],[42,43],[44,45,46,47,48,49,50],[51,52,53,54,55,56,57],[58,59,60,61,62,63,64],[65,66,67,68,69,70,71],[72,73,74,75,76,77,78],[79,80,81,82,83,84,85],[86,87],[88,89,90,91,92,93,94],[1,95]],[],[(9,[9],[])],[(9,[9,5,0],[])],[]⟩
  | 40 => Tab.hints ⟨[],[],[],[(0,[2,3,4,6,7,8,9,10,11,12,13,14,15,16,17,18,19,20,21,22,23,24,25,26,27])],[],[[4],[],[6,7,8],[10,11],[12,13,14,15,16],[17,18],[19,20,21,22,23,24],[25,26],[1,27]],[],[(9,[9],[])],[(9,[9,5,0],[])],[]⟩
  | 41 => Tab.hints ⟨[],[],[],[(0,[1,2,4,5,6,7,8,9,10,11,12,13,14,15,16,17,18,19])],[],[[2],[4],[],[],[6],[8,9,10,11,12,13,14,15],[16,17],[3,18,19]],[],[(5,[5,0],[]),(7,[7],[])],[(5,[5],[]),(7,[7,0],[])],[]⟩
  | 42 => Tab.hints ⟨[],[],[],[(0,[2,3,4,6,7,8,9,10,11,12,13,14,15,16,17,18,19,20,21,22,23,24,25,26,27,28,29,30,31,32,33,34,35,36,37,38,39,40,41,42,43,44,45,46,47,48,49,50,51,52,53])],[],[[4],[],[6,7,8],[10,11],[12,13,14,15,16,17],[18,19],[20,21,22,23,24,25],[26,27],[28,29,30,31,32,33,34],[35,36],[37,38,39,40,41,42,43,44],[45,46,47,48,49,50,51,52],[1,53]],[],[(9,[9],[])],[(9,[9,5,0],[])],[]⟩
  | 43 => Tab.hints ⟨[],[],[],[(0,[2,3,4,6,7,8,9,10,11,12,13,14,15,16,17,18,19,20,21,22,23,24,25,26,27])],[],[[4],[],[6,7,8],[10,11],[12,13,14,15,16,17],[18,19],[20,21,22,23,24,25,26],[1,27]],[],[(9,[9],[])],[(9,[9,5,0],[])],[]⟩
  | 44 => Tab.hints ⟨[],[],[],[],[],[[0,4],[5,6,7,8,9],[10],[],[12,13,14,15,16],[17],[],[19,20,21,22],[23],[],[25,26,27,28],[29],[],[31,32,33,34],[35],[],[37,38,39,40],[41],[],[43,44,45,46],[47],[],[2,49,50,51,52],[53],[],[1,55]],[[],[],[],[],[],[],[],[],[],[],[],[],[],[],[],[],[],[],[],[],[],[],[2]],[(11,[11,2,1],[2]),(18,[18,2,1],[2]),(24,[24,2,1],[2]),(30,[30,2,1],[2]),(36,[36,2,1],[2]),(42,[42,2,1],[2]),(48,[48,1,2],[2]),(54,[54,1],[])],[(11,[11],[]),(18,[18],[]),(24,[24],[]),(30,[30],[]),(36,[36],[]),(42,[42],[]),(48,[48],[]),(54,[54],[])],[]⟩
  | 45 => Tab.hints ⟨[],[],[],[],[],[[0,4],[2,5,6,7,8,9],[10],[],[1,12]],[[],[2]],[(11,[11,1],[])],[(11,[11],[])],[]⟩
  | 46 => Tab.hints ⟨[],[],[],[(0,[2,3,4,6,7,8,9,10,11,12,13,14,15,16,17,18,19,20,21,22,23,24,25,26])],[],[[4],[6,7,8,9],[10],[],[],[12,13,14],[16,17],[18,19,20,21,22,23],[24],[],[1,26]],[],[(11,[11,0,1],[]),(15,[15],[]),(25,[25,0,1,5],[])],[(11,[11],[]),(15,[15,0,5],[]),(25,[25],[])],[]⟩
  | 47 => Tab.hints ⟨[],[],[],[(0,[2,3,4,6,7,8,9,10,11,12,13,14,15,16,17,18,19,20,21,22,23,24,25,26])],[],[[4],[6,7,8,9],[10],[],[],[12,13,14],[16,17],[18,19,20,21,22,23],[24],[],[1,26]],[],[(11,[11,0,1],[]),(15,[15],[]),(25,[25,0,1,5],[])],[(11,[11],[]),(15,[15,0,5],[]),(25,[25],[])],[]⟩
  | 48 => Tab.hints ⟨[],[],[],[(0,[0,3,4,6,7,8,9,10,11,12,13,14,15,16,17,18,19,20,21,22,23,24,25,26])],[],[[0,4],[6,7],[],[8,9,10,11,12,13,14,15],[17,18],[19,20,21,22,23,24,25],[1,26]],[],[(16,[16],[])],[(16,[16,5,2],[2])],[]⟩
  | 49 => Tab.hints ⟨[],[],[],[],[],[[0,4],[1,2,6,7,8],[5,9,10,11,12,13,14,15,16,17,18]],[[],[2]],[],[],[]⟩
  | 50 => Tab.hints ⟨[],[],[],[(0,[0,3,4,6,7,8,9,10,11,12,13,14,15,16,17,18,19,20,21,22,23,24,25,26,27])],[],[[0,4],[],[6,7,8,9,10,11,12,13,14,15],[17,18],[19,20,21,22,23,24,25],[5,27]],[],[(16,[16],[]),(26,[26,2,1],[2])],[(16,[16,2,1,5],[2]),(26,[26],[])],[]⟩
  | 51 => Tab.hints ⟨[],[],[],[(0,[2,3,4,6,7,8,9,10,11,12,13,14,15,16,17])],[],[[4],[],[6,7,8],[10,11],[12,13,14,15,16]],[],[(9,[9],[]),(17,[17,0,1,5],[])],[(9,[9,0,1,5],[]),(17,[17],[])],[]⟩
  | 52 => Tab.hints ⟨[],[],[],[(0,[2,3,4,6,7,8,9,10,11,12,13,14,15,16,17,18,19])],[],[[4],[],[6,7,8],[10,11],[12,13,14,15,16,17],[5,19]],[],[(9,[9],[]),(18,[18,0,1],[])],[(9,[9,0,1,5],[]),(18,[18],[])],[]⟩
  | 53 => Tab.hints ⟨[],[],[],[(0,[0,1,2,6,8,9,10,11,12,13,14,15,16,17,18,19,20,21,22,23,24,25,26,27,28,29,30,31,32,33,34,35,36,37,38,39,40,41,42,43,44,45,46,47,48,49,50,51,52,53,54,55,56,57,58,59,60,61,62,63,64,65,66,67,68,69,70,71,72,73,74,75,76,77,78,79,80,81,82,83,84,85,86,87,88,89,90,91,92,93,94,95,96,97,98,99,100,101,102,103,104,105,106,107,108,109,110,111,112,113,114,115,116,117,118,119,120,121,122,123]),(3,[0,1,2,3,5,6,7,8,11,12,13,14,15,16,17,18,19,20,21,22,23,24,25,26,27,28,29,30,31,32,33,34,35,36,37,38,39,40,41,42,43,44,45,46,47,48,49,50,51,52,53,54,55,56,57,58,59,60,61,62,63,64,65,66,67,68,69,70,71,72,73,74,75,76,77,78,79,80,81,82,83,84,85,86,87,88,89,90,91,92,93,94,95,96,97,98,99,100,101,102,103,104,105,106,107,108,109,110,111,112,113,114,115,116,117,118,119,120,121,122,123])],[],[[0,1,2,6],[11,12],[],[14,15,16,17,18,19,20],[5,22,23,24],[25,26],[27,28,29,30,31,32,33,34,35,36,37,38,39],[41,42],[43,44],[3,4,5,46,47,48,49],[],[50,51,52,53],[55,56],[57,58,59,60,61,62,63,64],[],[],[66,67,68],[],[70,71,72,73],[74],[4,5,76,77,78,79,80,81,82,83,84],[8,85,86,87,88,89],[90],[93],[],[95],[],[96,97,98,99],[101,102],[103,104,105,106,107,108,109,110,111,112,113,114,115],[],[91,118],[3,4,9,119,120,121,122,123]],[[],[],[],[],[5],[],[],[],[],[3,4,5],[],[],[],[],[],[],[],[],[],[],[4,5],[],[],[],[],[],[],[],[],[],[],[],[3,4,9]],[(13,[13,5,3,4],[3,4,5]),(21,[21,4,3],[3,4]),(40,[40],[]),(45,[45],[]),(54,[54],[]),(65,[65,3,4,5,7],[3,4,5]),(69,[69,4,5,3],[3,4,5]),(75,[75,3,8],[3]),(92,[92,9,4,91,3],[3,4,9]),(94,[94,3,91],[3]),(117,[117],[]),(100,[100],[]),(116,[116,9,4,10],[4,9])],[(13,[13],[]),(21,[21],[]),(40,[40],[]),(45,[45],[]),(54,[54,3,4,5,7],[3,4,5]),(65,[65],[]),(69,[69],[]),(75,[75,5],[5]),(92,[92],[]),(94,[94],[]),(117,[117,3,9,4],[3,4,9]),(100,[100,9,4,10],[4,9]),(116,[116],[])],[]⟩
  | 54 => Tab.hints ⟨[[0],[1],[],[],[],[],[0,8],[0,1]],[],[],[(0,[1,2,5,6,7,8,9,10,11,12,13,14,15,16,17,18,19,20,21,22,23,24,25,26,27,28,29,30,31,32,33,34])],[],[[2],[5],[],[6,7,8],[10,11],[12,13,14,15,16,17,18,19,20,21,22,23,24],[26,27,28,29,30,31,32,33],[3,34]],[],[(9,[9],[]),(25,[25],[])],[(9,[9,4,0],[]),(25,[25],[])],[]⟩
  | 55 => Tab.hints ⟨[[],[],[],[],[],[],[0,1],[],[],[],[],[0],[0]],[],[],[(0,[0,3,5,7,8,9,10,11,12,13,14,15,16,17,18,19,20,21,22,23,24,25,26,27,28,29,30,31,32,33,34,35,36,37,38,39,40,41,42,43,44,45,46,47,48,49,50,51,52,53]),(2,[0,2,3,5,6,9,10,11,12,13,14,15,16,17,18,19,20,21,22,23,24,25,26,27,28,29,30,31,32,33,34,35,36,37,38,39,40,41,42,43,44,45,46,47,48,49,50,51,52,53])],[],[[0,5],[],[9,10,11,12,13,14,15,16,17,18],[20,21],[22,23,24,25,26,27,28],[2,6,30,31,32,33,34],[35],[],[36,37,38],[40,41],[42,43,44,45,46,47],[7,8,49,50,51,52],[53]],[[],[],[],[],[],[2]],[(19,[19],[]),(29,[29,1],[]),(39,[39],[]),(48,[48,1],[])],[(19,[19,2,6],[2]),(29,[29],[]),(39,[39,1,7,8],[]),(48,[48],[])],[]⟩
  | 56 => Tab.hints ⟨[],[],[],[],[],[[0],[],[4,5,6],[7,8,9],[10,11,12],[13,14,15],[16,17,18,19],[20,21,22,23],[24,25,26,27],[28,29,30,31],[32,33,34,35],[36,37,38],[1,39,40,41,42],[3,43]],[[],[],[],[],[],[],[],[],[],[],[],[],[1],[3]],[],[],[]⟩
  | 57 => Tab.hints ⟨[],[],[],[],[],[[0],[],[4,5,6],[1,7,8,9],[3,10]],[[],[],[],[1],[3]],[],[],[]⟩
  | 58 => Tab.hints ⟨[[0],[3],[],[],[],[],[0,1]],[],[],[(0,[1,2,5,6,7,8,9,10,11,12,13,14,15,16,17,18,19,20,21,22])],[],[[2],[5,6,7],[],[8,9,10],[12,13],[14,15,16,17,18,19,20,21],[3,22]],[[],[7]],[(11,[11],[])],[(11,[11,4,0],[])],[]⟩
  | 59 => Tab.hints ⟨[[0],[3],[],[],[],[],[0,1]],[],[],[(0,[1,2,5,6,7,8,9,10,11,12,13,14,15,16,17,18,19,20,21,22])],[],[[2],[5,6,7],[],[8,9,10],[12,13],[14,15,16,17,18,19,20,21],[3,22]],[[],[7]],[(11,[11],[])],[(11,[11,4,0],[])],[]⟩
  | 60 => Tab.hints ⟨[[],[],[],[],[1]],[[],[],[],[],[2]],[],[],[],[[2],[],[],[5],[0,4,6,7,8],[3,9,10]],[[],[],[],[],[4],[3]],[],[],[(3,[4])]⟩
  | 61 => Tab.hints ⟨[[1],[1],[0],[],[],[],[],[0,6],[0,8,10],[],[0,1]],[],[],[(0,[0,2,4,5,6,8,9,10,11,15,16,17,18,19,20,21,22,23,24,25,26,27,28,29,30,31,32,33,34,35,36,37])],[(0,[9,10])],[[0,6],[11],[2],[],[16,17],[18],[19],[10,20,21,22,23,24,25],[9,26,27,28,29,30,31,32,33,34,35],[36],[7,37]],[],[(15,[15],[])],[(15,[15,14,1,3,12,13],[])],[(1,[8199]),(1048581,[4097]),(1048585,[4104])]⟩
  | 62 => Tab.hints ⟨[[0],[0],[0],[],[],[2],[2],[2],[0,4],[],[0,1]],[],[],[(0,[0,1,2,4,5,9,10,11,12,13,14,15,16,17,18,19,20,21,22,23,24,25,26,27,28,29])],[(0,[5])],[[2],[],[0],[],[10,11],[12,13,14,15],[16,17,18,19],[20,21,22,23],[5,24,25,26,27],[28],[3,29]],[[],[],[],[],[],[],[],[],[5]],[(9,[9],[])],[(9,[9,8,6,7],[])],[]⟩
  | 63 => Tab.hints ⟨[[0],[3,6]],[],[],[],[],[[2],[0,3,4,5,6,7,8]],[],[],[],[]⟩
  | 64 => Tab.hints ⟨[],[],[],[],[],[[0,4],[1,2,6,7,8],[5,9,10,11,12,13,14,15,16,17,18]],[[],[2]],[],[],[]⟩
  | 65 => Tab.hints ⟨[[],[],[],[0]],[],[],[],[],[[0,5],[1,7,8,9],[10],[12],[2,6,13,14,15,16,17]],[[],[],[],[],[2]],[(11,[11,6,2],[2])],[(11,[11],[])],[]⟩
  | 66 => Tab.hints ⟨[[],[],[],[0]],[[],[3]],[],[],[],[[0,1,5],[3,7,8,9,10],[11],[13],[2,6,14,15,16,17,18]],[[],[3],[],[],[2]],[(12,[12,6,2],[2])],[(12,[12],[])],[]⟩
  | 67 => Tab.hints ⟨[[],[4]],[],[],[],[],[[1],[0,2,3,4,11,12,13,14,15,16,17,18,19,20,21,22,23]],[],[(10,[10],[])],[(10,[10,0,2,3,4],[])],[]⟩
  | 68 => Tab.hints ⟨[[],[0]],[[],[2]],[],[],[],[[1,4],[0,3,5,6,7]],[[],[3]],[],[],[]⟩
  | 69 => Tab.hints ⟨[[],[0]],[[],[2]],[],[],[],[[1,4],[0,3,5,6,7]],[[],[3]],[],[],[]⟩
  | 70 => Tab.hints ⟨[],[[],[],[],[],[],[],[],[],[],[3]],[],[],[],[[0,1,2,6],[8,9,10],[],[12,13],[5,14,15,16],[17,18],[20,21,22],[23,24],[3,4,5,26,27,28,29,30],[3,4,5,31,32,33,34,35],[37,38,39],[],[3,4,5,40,41,42,43,44]],[[],[],[],[],[5],[],[],[],[3,4,5],[3,4,5],[],[],[3,4,5]],[(7,[7,5,3,4],[3,4,5]),(11,[11,4,3],[3,4]),(19,[19],[]),(36,[36,5,4,3],[3,4,5]),(25,[25],[])],[(7,[7],[]),(11,[11],[]),(19,[19],[]),(36,[36],[]),(25,[25],[])],[]⟩
  | 71 => Tab.hints ⟨[[0],[1],[0],[],[],[],[0,5],[],[0,1]],[],[],[(0,[0,1,2,4,5,6,10,11,12,13,14,15,16,17,18,19,20,21,22,23,24,25,26,27])],[(0,[5])],[[2],[6],[0],[],[11,12],[13,14,15,16,17,18,19],[5,21,22,23,24,25],[26],[3,27]],[[],[],[],[],[],[],[5]],[(10,[10],[]),(20,[20],[])],[(10,[10,9,7,8],[]),(20,[20,5],[5])],[]⟩
  | 72 => Tab.hints ⟨[[],[],[],[],[0,1],[],[],[0],[0]],[],[],[],[],[[0,5],[9,10,11,12],[13],[2,6,15,16,17,18,19],[20],[1,21,22,23],[24],[7,8,26,27,28,29],[30]],[[],[],[],[2]],[(14,[14,1],[]),(25,[25],[])],[(14,[14,2,6],[2]),(25,[25,7,8],[])],[]⟩
  | 73 => Tab.hints ⟨[[],[0]],[],[],[],[],[[4],[0,1,5,6,7,8]],[],[],[],[]⟩
  | 74 => Tab.hints ⟨[[],[0]],[[],[2]],[],[],[],[[4],[0,1,5,6,7,8]],[],[],[],[]⟩
  | 75 => Tab.hints ⟨[],[],[],[],[],[[0,3],[1,2,4,5,6,7,8]],[[],[2]],[],[],[]⟩
  | 76 => Tab.hints ⟨[],[],[],[],[],[[0,1,4],[5,6,7,8],[],[10,11,12,13],[],[15,16,17,18],[],[20,21,22,23],[],[25,26,27,28,29],[],[31,32,33,34,35],[],[37,38,39,40,41],[],[43,44,45,46,47],[],[49,50,51,52,53],[],[55,56,57,58],[],[2,3,60,61,62,63,64]],[[],[],[],[],[],[],[],[],[],[],[],[],[],[],[],[],[],[],[],[],[],[2,3]],[(9,[9,2,3],[2,3]),(14,[14,3,2],[2,3]),(19,[19,2,3],[2,3]),(24,[24,3,2],[2,3]),(30,[30,2,3],[2,3]),(36,[36,3,2],[2,3]),(42,[42,2,3],[2,3]),(48,[48,3,2],[2,3]),(54,[54,2,3],[2,3]),(59,[59,3,2],[2,3]),(65,[65],[])],[(9,[9],[]),(14,[14],[]),(19,[19],[]),(24,[24],[]),(30,[30],[]),(36,[36],[]),(42,[42],[]),(48,[48],[]),(54,[54],[]),(59,[59],[]),(65,[65],[])],[]⟩
  | 77 => Tab.hints ⟨[],[],[],[],[],[[0,1,4],[5,6,7,8],[],[2,3,10,11,12,13]],[[],[],[],[2,3]],[(9,[9,3,2],[2,3]),(14,[14],[])],[(9,[9],[]),(14,[14],[])],[]⟩
  | 78 => Tab.hints ⟨[],[],[],[(0,[2,3,4,6,7,8,9,10,11,12,13,14,15,16,17,18,19,20,21,22,23,24,25,26])],[],[[4],[6,7,8,9],[],[],[11,12,13],[15,16],[17,18,19,20,21,22,23,24,25]],[],[(10,[10,0,1],[]),(14,[14],[]),(26,[26,0,1,5],[])],[(10,[10],[]),(14,[14,0,1,5],[]),(26,[26],[])],[]⟩
  | 79 => Tab.hints ⟨[],[],[],[(0,[2,3,4,6,7,8,9,10,11,12,13,14,15,16,17,18,19,20,21,22,23,24,25,26])],[],[[4],[6,7,8,9],[],[],[11,12,13],[15,16],[17,18,19,20,21,22,23,24,25]],[],[(10,[10,0,1],[]),(14,[14],[]),(26,[26,0,1,5],[])],[(10,[10],[]),(14,[14,0,1,5],[]),(26,[26],[])],[]⟩
  | 80 => Tab.hints ⟨[],[],[],[(0,[2,3,4,6,7,8,9,10,11,12,13,14,15,16,17,18,19])],[],[[4],[],[6,7,8],[10,11],[12,13,14,15,16],[17,18],[1,19]],[],[(9,[9],[])],[(9,[9,5,0],[])],[]⟩
  | 81 => Tab.hints ⟨[],[],[],[(0,[2,3,4,6,7,8,9,10,11,12,13,14,15,16,17,18,19,20,21,22,23,24,25,26,27,28,29,30,31,32,33,34,35,36,37,38,39,40,41,42,43,44,45,46,47,48,49,50,51,52,53,54,55,56,57,58,59,60])],[],[[4],[],[6,7,8],[10,11],[12,13,14,15,16,17],[18,19],[20,21,22,23,24,25],[26,27],[28,29,30,31,32,33,34],[35,36,37,38,39,40,41],[42,43],[44,45,46,47,48,49,50],[51,52],[53,54,55,56,57,58,59],[1,60]],[],[(9,[9],[])],[(9,[9,5,0],[])],[]⟩
  | 82 => Tab.hints ⟨[],[],[],[(0,[2,3,4,6,7,8,9,10,11,12,13,14,15,16,17,18,19,20,21,22,23,24,25,26,27,28,29,30,31,32,33,34,35,36,37,38,39,40,41,42,43,44,45,46,47,48,49,50,51,52,53,54,55,56,57,58,59,60,61,62,63,64,65,66,67,68,69,70,71,72,73,74,75,76,77,78,79,80,81,82,83,84,85,86,87,88,89,90,91,92,93,94,95])],[],[[4],[],[6,7,8],[10,11],[12,13,14,15,16,17],[18,19],[20,21,22,23,24,25],[26,27],[28,29,30,31,32,33,34],[35,36],[37,38,39,40,41,42,43],[44,45],[46,47,48,49,50,51,52],[53,54],[55,56,57,58,59,60],[61,62],[63,64,65,66,67,68,69],[70,71],[72,73,74,75,76,77,78,79],[80,81,82,83,84,85,86,87],[88,89,90,91,92,93,94],[1,95]],[],[(9,[9],[])],[(9,[9,5,0],[])],[]⟩
  | 83 => Tab.hints ⟨[],[],[],[(0,[2,3,4,6,7,8,9,10,11,12,13,14,15,16,17,18,19,20,21,22,23,24,25,26,27,28,29,30,31,32,33,34,35])],[],[[4],[],[6,7,8],[10,11],[12,13,14,15,16,17],[18,19],[20,21,22,23,24,25],[26,27],[28,29,30,31,32,33,34],[1,35]],[],[(9,[9],[])],[(9,[9,5,0],[])],[]⟩
  | 84 => Tab.hints ⟨[],[],[],[(0,[2,3,4,6,7,8,9,10,11,12,13,14,15,16,17,18,19,20,21,22,23,24,25,26,27,28,29,30,31,32,33,34,35,36,37,38,39,40,41])],[],[[4],[],[6,7,8],[10,11],[12,13,14,15,16],[17,18],[19,20,21,22,23,24],[25,26],[27,28,29,30,31,32,33],[34,35,36,37,38,39,40],[1,41]],[],[(9,[9],[])],[(9,[9,5,0],[])],[]⟩
  | 85 => Tab.hints ⟨[],[],[],[(0,[2,3,4,6,7,8,9,10,11,12,13,14,15,16,17,18,19,20,21,22,23,24,25,26,27])],[],[[4],[6,7,8,9],[10],[],[],[12,13,14],[16,17],[18,19,20,21,22,23,24],[25],[],[1,27]],[],[(11,[11,1,0],[]),(15,[15],[]),(26,[26,1,0,5],[])],[(11,[11],[]),(15,[15,0,5],[]),(26,[26],[])],[]⟩
  | 86 => Tab.hints ⟨[],[],[],[(0,[2,3,4,6,7,8,9,10,11,12,13,14,15,16,17,18,19,20,21,22,23,24,25,26])],[],[[4],[6,7,8,9],[10],[],[],[12,13,14],[16,17],[18,19,20,21,22,23],[24],[],[1,26]],[],[(11,[11,0,1],[]),(15,[15],[]),(25,[25,0,1,5],[])],[(11,[11],[]),(15,[15,0,5],[]),(25,[25],[])],[]⟩
  | 87 => Tab.hints ⟨[],[],[],[(0,[2,3,4,6,7,8,9,10,11,12,13,14,15,16,17,18,19,20,21,22,23,24,25,26])],[],[[4],[6,7,8,9],[10],[],[],[12,13,14],[16,17],[18,19,20,21,22,23],[24],[],[1,26]],[],[(11,[11,0,1],[]),(15,[15],[]),(25,[25,0,1,5],[])],[(11,[11],[]),(15,[15,0,5],[]),(25,[25],[])],[]⟩
  | 88 => Tab.hints ⟨[],[],[],[(0,[2,3,4,6,7,8,9,10,11,12,13,14,15,16,17,18,19,20,21,22,23,24,25,26])],[],[[4],[6,7,8,9],[10],[],[],[12,13,14],[16,17],[18,19,20,21,22,23],[24],[],[1,26]],[],[(11,[11,0,1],[]),(15,[15],[]),(25,[25,0,1,5],[])],[(11,[11],[]),(15,[15,0,5],[]),(25,[25],[])],[]⟩
  | 89 => Tab.hints ⟨[],[],[],[],[],[[0,4],[5,6,7,8,9],[10],[],[2,12,13,14,15],[16],[],[1,18]],[[],[],[],[],[2]],[(11,[11,1,2],[2]),(17,[17,1],[])],[(11,[11],[]),(17,[17],[])],[]⟩
  | 90 => Tab.hints ⟨[],[],[],[],[],[[0,4],[5,6,7,8,9],[10],[],[2,12,13,14,15],[16],[],[1,18]],[[],[],[],[],[2]],[(11,[11,1,2],[2]),(17,[17,1],[])],[(11,[11],[]),(17,[17],[])],[]⟩
  | 91 => Tab.hints ⟨[],[],[],[],[],[[0,4],[6,7,8],[9],[2,5,11,12,13,14,15,16],[1,17]],[[],[],[],[2]],[(10,[10,1],[]),(18,[18],[])],[(10,[10,2,5],[2]),(18,[18],[])],[]⟩
  | 92 => Tab.hints ⟨[],[],[],[],[],[[0,2],[1,3,4,5,6,7,8,9,10,11,12,13,14,15,16]],[[],[1]],[],[],[]⟩
  | 93 => Tab.hints ⟨[],[],[],[],[],[[0],[3],[5,6,7,8,9,10,11,12],[1,13]],[[],[],[],[1]],[(4,[4],[])],[(4,[4],[])],[]⟩
  | 94 => Tab.hints ⟨[[],[],[],[],[],[2]],[],[],[],[],[[0],[3,4],[5,6,7,8,9,10,11,12,13,14,15,16,17],[19,20,21,22,23,24,25,26],[1,27],[1,28,29,30]],[[],[],[],[],[1],[1]],[(18,[18],[])],[(18,[18],[])],[]⟩
  | 95 => Tab.hints ⟨[],[],[],[],[],[[2],[0,3,4,5,6,7,8,9,10,11,12,13,14,15,16,17,18,19,20]],[],[],[],[]⟩
  | 96 => Tab.hints ⟨[],[],[],[],[],[[1,4],[0],[7],[3,8,9,10,11,12,13,14,15],[17],[3,18,19,20,21,22,23,24,25],[27],[3,28,29,30],[5,32],[3,33,34,35,36,37,38,39,40,41,42,43,44,45],[3,46,47,48,49,50,51,52,53]],[[],[],[],[3],[],[3],[],[3],[],[3],[3]],[(6,[6,5],[]),(16,[16,5],[]),(26,[26,5],[]),(31,[31],[])],[(6,[6],[]),(16,[16],[]),(26,[26],[]),(31,[31],[])],[]⟩
  | 97 => Tab.hints ⟨[[],[],[],[],[],[],[],[],[],[0,1,2]],[],[],[(0,[0,2,4,6,8,9,10,11,12,13,14,15,16,17,18,19,20,21,22,23,24,25,26,27,28,29,30,31,32,33,34,35,36,37,38,39,40,41,42,43,44,45,46,47,48,49,50,51,52,53,54,55,56,57,58,59,60,61,62,63,64,65,66,67,68,69,70,71,72,73,74,75,76,77,78,79,80,81,82,83,84,85,86,87]),(2,[0,1,2,3,4,6,7,8,11,12,13,14,15,16,17,18,19,20,21,22,23,24,25,26,27,28,29,30,31,32,33,34,35,36,37,38,39,40,41,42,43,44,45,46,47,48,49,50,51,52,53,54,55,56,57,58,59,60,61,62,63,64,65,66,67,68,69,70,71,72,73,74,75,76,77,78,79,80,81,82,83,84,85,86,87])],[],[[0,2,6],[11,12,13,14,15,16,17,18,19,20,21,22,23,24,25,26,27],[],[],[29,30,31,32],[34,35],[36,37,38,39,40,41,42],[8,43,44,45,46,47,48,49,50,51,52,53,54,55,56,57,58,59,60,61,62,63,64,65,66,67,68,69,70],[],[1,72,73],[],[74,75,76],[78,79],[80,81,82,83,84,85,86]],[],[(28,[28,3,5,1],[3,5]),(33,[33],[]),(71,[71,3,5,1,7],[3,5]),(77,[77],[]),(87,[87,5,9,10],[5])],[(28,[28],[]),(33,[33,3,7],[3]),(71,[71],[]),(77,[77,5,9,10],[5]),(87,[87],[])],[]⟩
  | 98 => Tab.hints ⟨[[0],[5],[4]],[],[],[],[],[[0],[2,3,4,5,6,7],[1,8,9,10,11]],[[],[],[1]],[],[],[]⟩
  | 99 => Tab.hints ⟨[[0],[3],[],[],[],[],[0,1]],[],[],[(0,[1,2,5,6,7,8,9,10,11,12,13,14,15,16,17,18,19,20,21])],[],[[2],[5,6,7],[],[8,9,10],[12,13],[14,15,16,17,18,19,20],[3,21]],[[],[7]],[(11,[11],[])],[(11,[11,4,0],[])],[]⟩
  | 100 => Tab.hints ⟨[[0],[3],[],[],[],[],[0,1]],[],[],[(0,[1,2,5,6,7,8,9,10,11,12,13,14,15,16,17,18,19,20,21,22])],[],[[2],[5,6,7],[],[8,9,10],[12,13],[14,15,16,17,18,19,20,21],[3,22]],[[],[7]],[(11,[11],[])],[(11,[11,4,0],[])],[]⟩
  | 101 => Tab.hints ⟨[[0],[3],[],[],[],[],[0,1]],[],[],[(0,[1,2,5,6,7,8,9,10,11,12,13,14,15,16,17,18,19,20,21,22])],[],[[2],[5,6,7],[],[8,9,10],[12,13],[14,15,16,17,18,19,20,21],[3,22]],[[],[7]],[(11,[11],[])],[(11,[11,4,0],[])],[]⟩
  | 102 => Tab.hints ⟨[[0],[3],[],[],[],[],[0,1]],[],[],[(0,[1,2,5,6,7,8,9,10,11,12,13,14,15,16,17,18,19,20,21,22])],[],[[2],[5,6,7],[],[8,9,10],[12,13],[14,15,16,17,18,19,20,21],[3,22]],[[],[7]],[(11,[11],[])],[(11,[11,4,0],[])],[]⟩
  | 103 => Tab.hints ⟨[],[],[],[],[],[[0],[],[4,5,6],[1,7,8,9,10],[3,11]],[[],[],[],[1],[3]],[],[],[]⟩
  | 104 => Tab.hints ⟨[],[],[],[],[],[[0],[],[4,5,6],[1,7,8,9,10],[3,11]],[[],[],[],[1],[3]],[],[],[]⟩
  | 105 => Tab.hints ⟨[[0]],[[],[],[],[],[],[3]],[],[(0,[0,3,4,5,9,10,11,12,13,14,15,16,17,18,19,20])],[(0,[5])],[[0],[],[10,11],[12,13],[14],[5,16,17,18,19],[20]],[[],[],[],[],[],[5]],[(9,[9],[]),(15,[15],[])],[(9,[9,8,2,1,6,7],[]),(15,[15,5],[5])],[]⟩
  | 106 => Tab.hints ⟨[],[],[],[],[],[[0,2,6],[9,10],[1,3,5,8,12,13,14,15,16,17,18,19],[7,20,21,22],[23,24],[5,26,27],[1,28]],[[],[],[3,5],[7],[],[5]],[(11,[11],[]),(25,[25,1],[])],[(11,[11,3],[3]),(25,[25,5],[5])],[]⟩
  | 107 => Tab.hints ⟨[[0],[0],[0],[],[],[0,9],[],[0,1]],[],[],[(0,[0,1,2,4,5,9,10,11,12,13,14,15,16,17,18,19,20,21,22])],[(0,[5])],[[2],[],[0],[],[10,11],[5,12,13,14,15,16,17,18,19,20],[21],[3,22]],[[],[],[],[],[],[5]],[(9,[9],[])],[(9,[9,8,6,7],[])],[]⟩
  | 108 => Tab.hints ⟨[[0],[0],[0],[],[],[0,5,9],[],[0,1]],[],[],[(0,[0,1,2,4,5,9,10,11,12,13,14,15,16,17,18,19,20,21,22])],[(0,[5])],[[2],[],[0],[],[10,11],[5,12,13,14,15,16,17,18,19,20],[21],[3,22]],[[],[],[],[],[],[5]],[(9,[9],[])],[(9,[9,8,6,7],[])],[]⟩
  | 109 => Tab.hints ⟨[],[],[],[],[],[[0,4],[2,7,8,9,10,11,12],[6,14],[5,15,16],[1,18,19]],[[],[2],[],[5]],[(13,[13,1],[]),(17,[17],[])],[(13,[13,5],[5]),(17,[17],[])],[]⟩
  | 110 => Tab.hints ⟨[],[],[],[],[],[[0,4],[1,2,5,6,7,8]],[[],[2]],[],[],[]⟩
  | 111 => Tab.hints ⟨[],[[],[],[],[],[5]],[],[(0,[2,3,4,5,6,9,10,11,12,13,14,15,16,17,18])],[],[[4],[6],[],[10],[11,12,13,14,15],[5,17],[18]],[],[(9,[9],[]),(16,[16,7,1,0,8],[])],[(9,[9,7,1,0,8],[]),(16,[16,5],[])],[]⟩
  | 112 => Tab.hints ⟨[],[],[],[],[],[[0,3],[1,2,4,5,6,7]],[[],[2]],[],[],[]⟩
  | 113 => Tab.hints ⟨[[],[0]],[[],[2]],[],[],[],[[4],[0,1,5,6,7,8]],[],[],[],[]⟩
  | 114 => Tab.hints ⟨[],[],[],[],[],[[0,3],[1,2,4,5,6,7]],[[],[2]],[],[],[]⟩
  | 115 => Tab.hints ⟨[],[[],[],[],[],[5]],[],[(0,[2,3,4,5,6,9,10,11,12,13,14,15,16,17,18])],[],[[4],[6],[],[10],[11,12,13,14,15],[5,17],[18]],[],[(9,[9],[]),(16,[16,7,1,0,8],[])],[(9,[9,7,1,0,8],[]),(16,[16,5],[])],[]⟩
  | 116 => Tab.hints ⟨[],[],[],[],[],[[0,3],[1,2,4,5,6,7]],[[],[2]],[],[],[]⟩
  | 117 => Tab.hints ⟨[],[],[],[],[],[[0,2],[1,3,4,5,6,7,8,9,10]],[[],[1]],[],[],[]⟩
  | 118 => Tab.hints ⟨[],[],[],[],[],[[0,2],[1,3,4,5]],[[],[1]],[],[],[]⟩
  | 119 => Tab.hints ⟨[[],[5]],[],[],[],[],[[0],[1,3,4,5,6,7,8]],[[],[1]],[],[],[]⟩
  | 120 => Tab.hints ⟨[],[],[],[],[],[[4],[0,1,5,6,7]],[],[],[],[]⟩
  | 121 => Tab.hints ⟨[[],[],[],[2],[3]],[],[],[],[],[[0],[5,6,7,8,9,10,11],[4,12],[1,14,15,16],[1,3,17,18,19,20]],[[],[],[],[1],[1]],[(13,[13,3],[])],[(13,[13],[])],[]⟩
  | 122 => Tab.hints ⟨[[],[0]],[[],[2]],[],[],[],[[4],[0,1,5,6,7,8]],[],[],[],[]⟩
  | 123 => Tab.hints ⟨[],[],[],[],[],[[0,4],[1,2,3,5,6,7,8,9,10]],[[],[3]],[],[],[]⟩
  | 124 => Tab.hints ⟨[],[[],[],[],[],[],[],[],[],[7]],[],[],[],[[0,1,6],[9,10,11,12,13,14],[8,15],[2,4,17,18,19,20,21,22,23],[24],[27],[],[29],[4,7,30,31,32,33,34,35,36,37,38],[25,40],[3,4,7,41,42,43,44]],[[],[],[],[4],[],[],[],[],[4,7],[],[3,4,7]],[(16,[16,3,7],[3,7]),(26,[26,4,7,25,3],[3,4,7]),(28,[28,3,25],[3]),(39,[39],[])],[(16,[16,2],[]),(26,[26],[]),(28,[28],[]),(39,[39,3,4,7],[3,4,7])],[]⟩
  | 125 => Tab.hints ⟨[[],[],[],[0]],[[],[],[],[2]],[],[],[],[[1,4],[5,6],[],[0,3,8,9,10]],[[],[],[],[3]],[(7,[7,3,0],[3])],[(7,[7],[])],[]⟩
  | 126 => Tab.hints ⟨[[0],[2],[5],[],[],[],[1],[0,8],[],[0,1]],[],[],[(0,[0,1,3,4,5,6,7,8,9,10,11,12,13,17,18,19,20,21,22,23,24,25,26,27,28,29,30,31])],[(0,[5])],[[0],[6,7,8],[1,9,10,11,12,13],[],[],[18,19],[20,21],[4,5,22,23,24,25,26,27,28,29],[30],[2,31]],[[],[],[1],[],[],[],[],[5]],[(17,[17],[])],[(17,[17,16,14,15],[])],[]⟩
  | 127 => Tab.hints ⟨[],[],[],[(0,[2,3,4,5,6,9,10,11,12,13,14,15,16,17,18])],[],[[4],[6],[],[10],[11,12,13,14,15],[5,17],[18]],[],[(9,[9],[]),(16,[16,7,1,0,8],[])],[(9,[9,7,1,0,8],[]),(16,[16,5],[])],[]⟩
  | 128 => Tab.hints ⟨[],[[],[],[],[],[5]],[],[(0,[2,3,4,5,6,9,10,11,12,13,14,15,16,17,18])],[],[[4],[6],[],[10],[11,12,13,14,15],[5,17],[18]],[],[(9,[9],[]),(16,[16,7,1,0,8],[])],[(9,[9,7,1,0,8],[]),(16,[16,5],[])],[]⟩
  | 129 => Tab.hints ⟨[],[],[],[(0,[2,3,4,6,7,8,9,10,11,12,13,14,15,16,17,18,19,20,21,22,23,24,25])],[],[[4],[6,7,8,9],[],[],[11,12,13],[15,16],[17,18,19,20,21,22,23,24]],[],[(10,[10,0,1],[]),(14,[14],[]),(25,[25,0,1,5],[])],[(10,[10],[]),(14,[14,0,1,5],[]),(25,[25],[])],[]⟩
  | 130 => Tab.hints ⟨[],[],[],[(0,[2,3,4,6,7,8,9,10,11,12,13,14,15,16,17,18,19,20,21,22,23,24,25,26])],[],[[4],[6,7,8,9],[],[],[11,12,13],[15,16],[17,18,19,20,21,22,23,24,25]],[],[(10,[10,0,1],[]),(14,[14],[]),(26,[26,0,1,5],[])],[(10,[10],[]),(14,[14,0,1,5],[]),(26,[26],[])],[]⟩
  | 131 => Tab.hints ⟨[],[],[],[(0,[2,3,4,6,7,8,9,10,11,12,13,14,15,16,17,18,19,20,21,22,23,24,25,26])],[],[[4],[6,7,8,9],[],[],[11,12,13],[15,16],[17,18,19,20,21,22,23,24,25]],[],[(10,[10,0,1],[]),(14,[14],[]),(26,[26,0,1,5],[])],[(10,[10],[]),(14,[14,0,1,5],[]),(26,[26],[])],[]⟩
  | 132 => Tab.hints ⟨[],[],[],[(0,[2,3,4,6,7,8,9,10,11,12,13,14,15,16,17,18,19,20,21,22,23,24,25,26])],[],[[4],[6,7,8,9],[],[],[11,12,13],[15,16],[17,18,19,20,21,22,23,24,25]],[],[(10,[10,0,1],[]),(14,[14],[]),(26,[26,0,1,5],[])],[(10,[10],[]),(14,[14,0,1,5],[]),(26,[26],[])],[]⟩
  | 133 => Tab.hints ⟨[],[],[],[],[],[[0,1,4],[5,6,7,8],[],[2,3,10,11,12,13,14]],[[],[],[],[2,3]],[(9,[9,3,2],[2,3]),(15,[15],[])],[(9,[9],[]),(15,[15],[])],[]⟩
  | 134 => Tab.hints ⟨[],[],[],[],[],[[0,1,4],[5,6,7,8],[],[2,3,10,11,12,13,14]],[[],[],[],[2,3]],[(9,[9,3,2],[2,3]),(15,[15],[])],[(9,[9],[]),(15,[15],[])],[]⟩
  | 135 => Tab.hints ⟨[],[],[],[],[],[[0,4],[5,6,7,8,9],[10],[],[12,13,14,15,16],[17],[],[19,20,21,22],[23],[],[25,26,27,28],[29],[],[2,31,32,33,34],[35],[],[1,37]],[[],[],[],[],[],[],[],[],[],[],[],[],[],[2]],[(11,[11,2,1],[2]),(18,[18,2,1],[2]),(24,[24,2,1],[2]),(30,[30,1,2],[2]),(36,[36,1],[])],[(11,[11],[]),(18,[18],[]),(24,[24],[]),(30,[30],[]),(36,[36],[])],[]⟩
  | 136 => Tab.hints ⟨[],[],[],[],[],[[0,4],[5,6,7,8,9],[10],[],[12,13,14,15,16],[17],[],[19,20,21,22],[23],[],[25,26,27,28],[29],[],[2,31,32,33,34],[35],[],[1,37]],[[],[],[],[],[],[],[],[],[],[],[],[],[],[2]],[(11,[11,2,1],[2]),(18,[18,2,1],[2]),(24,[24,2,1],[2]),(30,[30,1,2],[2]),(36,[36,1],[])],[(11,[11],[]),(18,[18],[]),(24,[24],[]),(30,[30],[]),(36,[36],[])],[]⟩
  | 137 => Tab.hints ⟨[],[],[],[],[],[[0,4],[5,6,7,8,9],[10],[],[12,13,14,15,16],[17],[],[2,19,20,21,22],[23],[],[1,25]],[[],[],[],[],[],[],[],[2]],[(11,[11,2,1],[2]),(18,[18,1,2],[2]),(24,[24,1],[])],[(11,[11],[]),(18,[18],[]),(24,[24],[])],[]⟩
  | 138 => Tab.hints ⟨[],[],[],[],[],[[0,4],[5,6,7,8,9],[10],[],[12,13,14,15],[16],[],[2,18,19,20,21],[22],[],[1,24]],[[],[],[],[],[],[],[],[2]],[(11,[11,2,1],[2]),(17,[17,1,2],[2]),(23,[23,1],[])],[(11,[11],[]),(17,[17],[]),(23,[23],[])],[]⟩
  | 139 => Tab.hints ⟨[],[],[],[(0,[1,2,5,6,7,8,9,10,11,12,13,14,15,16,17,18,19,20,21,22,23,24,25,26,27,28,29,30,31,32,33,34,35,36,37])],[],[[2],[5,6,7,8,9,10,11],[],[],[],[13,14,15],[17,18],[19,20,21],[23,24,25,26,27,28,29,30],[0,31,32],[3,34,35],[3,36,37]],[],[(12,[12,0],[]),(16,[16],[]),(22,[22],[]),(33,[33],[])],[(12,[12],[]),(16,[16,4],[]),(22,[22],[]),(33,[33],[])],[]⟩
  | 140 => Tab.hints ⟨[[],[5]],[],[],[],[],[[],[0,3,4,5,6,7,8]],[],[],[],[]⟩
  | 141 => Tab.hints ⟨[],[],[],[],[],[[0],[],[4,5,6],[7,8,9],[10,11,12,13],[14,15,16,17],[1,18,19,20,21],[3,22]],[[],[],[],[],[],[],[1],[3]],[],[],[]⟩
  | 142 => Tab.hints ⟨[],[],[],[],[],[[0],[],[4,5,6],[7,8,9],[10,11,12,13],[14,15,16],[17,18,19,20],[1,21,22,23,24],[3,25]],[[],[],[],[],[],[],[],[1],[3]],[],[],[]⟩
  | 143 => Tab.hints ⟨[],[],[],[],[],[[0],[],[4,5,6],[7,8,9],[1,10,11,12,13],[3,14]],[[],[],[],[],[1],[3]],[],[],[]⟩
  | 144 => Tab.hints ⟨[],[],[],[],[],[[0],[],[4,5,6],[7,8,9],[10,11,12,13],[1,14,15,16,17],[3,18]],[[],[],[],[],[],[1],[3]],[],[],[]⟩
  | 145 => Tab.hints ⟨[[],[6,7],[],[],[],[1]],[[],[],[],[],[],[2]],[],[(0,[0,1,4,5,6,7,8,9,10,11,12,13,14,18,19,20,21,22,23,24,25,26,27,28,29])],[(0,[5])],[[0],[6,7,8,9,10,11,12,13],[1,14],[],[19,20],[5,21,22,23,24,25,26,27],[28],[3,29]],[[],[],[1],[],[],[5],[],[3]],[(18,[18],[])],[(18,[18,17,15,16],[])],[(4,[5])]⟩
  | 146 => Tab.hints ⟨[],[],[],[],[],[[2],[0],[5],[6],[7],[8],[9],[4]],[],[(4,[],[])],[(4,[4],[])],[]⟩
  | 147 => Tab.hints ⟨[],[[],[],[],[],[5]],[],[(0,[2,3,4,5,6,9,10,11,12,13,14,15,16,17,18])],[],[[4],[6],[],[10],[11,12,13,14,15],[5,17],[18]],[],[(9,[9],[]),(16,[16,7,1,0,8],[])],[(9,[9,7,1,0,8],[]),(16,[16,5],[])],[]⟩
  | 148 => Tab.hints ⟨[],[],[],[],[],[[4],[0,1,5,6,7]],[],[],[],[]⟩
  | 149 => Tab.hints ⟨[],[],[],[],[],[[4],[0,1,5,6,7,8,9,10,11,12,13,14,15,16,17,18,19,20]],[],[],[],[]⟩
  | 150 => Tab.hints ⟨[],[],[],[],[],[[4,5],[0,1,6,7,8,9,10]],[],[],[],[]⟩
  | 151 => Tab.hints ⟨[],[[],[],[],[],[5]],[],[(0,[2,3,4,5,6,9,10,11,12,13,14,15,16,17,18])],[],[[4],[6],[],[10],[11,12,13,14,15],[5,17],[18]],[],[(9,[9],[]),(16,[16,7,1,0,8],[])],[(9,[9,7,1,0,8],[]),(16,[16,5],[])],[]⟩
  | 152 => Tab.hints ⟨[],[],[],[],[],[[0,4],[1],[7],[2,8,9,10,11,12,13,14,15],[17],[2,18,19,20,21,22,23,24,25],[27],[2,28,29,30],[5,32],[2,33,34,35,36,37,38,39,40,41,42,43,44,45],[2,46,47,48,49,50,51,52,53]],[[],[],[],[2],[],[2],[],[2],[],[2],[2]],[(6,[6,5],[]),(16,[16,5],[]),(26,[26,5],[]),(31,[31],[])],[(6,[6],[]),(16,[16],[]),(26,[26],[]),(31,[31],[])],[]⟩
  | 153 => Tab.hints ⟨[[],[0]],[[],[2]],[],[],[],[[4],[0,1,5,6,7,8]],[],[],[],[]⟩
  | 154 => Tab.hints ⟨[],[],[],[],[],[[0,3],[1,2,4,5,6,7,8]],[[],[2]],[],[],[]⟩
  | 155 => Tab.hints ⟨[[],[],[],[],[],[],[],[],[],[],[2]],[[],[],[],[],[],[],[],[],[],[],[4]],[],[(0,[0,1,2,6,7,8,9,10,11,12,13,14,15,16,17,18,19,20,21,22,23,24,25,26,27,28,32,33,34,35,36,37,38,39,40,41,42,43,44,45,46,47,48,49,50,51,52,53,54,55,56,57,58,59,60,61,62,63,64,65,66,67,68,69,70,71,72])],[],[[0,1,2,6],[10,11,12,13,14,15,16,17,18,19,20,21,22,23,24,25,26],[],[28],[],[33,34,35],[36,37,38,39],[7,8,9,40,41,42,43,44,45,46,47,48,49,50,51,52,53,54,55,56,57,58,59,60,61,62,63,64],[],[66],[4,5,67,68,69,70,71,72]],[[],[],[],[],[],[],[],[],[],[],[4,5]],[(27,[27,3,4,5],[3,4,5]),(32,[32],[]),(65,[65,30,29,3,4,5,31],[3,4,5])],[(27,[27],[]),(32,[32,30,29,3,31],[3]),(65,[65],[])],[]⟩
  | 156 => Tab.hints ⟨[],[[],[],[],[],[5]],[],[(0,[2,3,4,5,6,9,10,11,12,13,14,15,16,17,18])],[],[[4],[6],[],[10],[11,12,13,14,15],[5,17],[18]],[],[(9,[9],[]),(16,[16,7,1,0,8],[])],[(9,[9,7,1,0,8],[]),(16,[16,5],[])],[]⟩
  | 157 => Tab.hints ⟨[],[],[],[],[],[[0,3],[1,2,4,5,6,7]],[[],[2]],[],[],[]⟩
  | 158 => Tab.hints ⟨[],[],[],[],[],[[0,1,4],[5,6,7,8],[],[10,11,12,13],[],[15,16,17,18,19],[],[21,22,23,24,25],[],[2,3,27,28,29,30,31]],[[],[],[],[],[],[],[],[],[],[2,3]],[(9,[9,2,3],[2,3]),(14,[14,3,2],[2,3]),(20,[20,2,3],[2,3]),(26,[26,3,2],[2,3]),(32,[32],[])],[(9,[9],[]),(14,[14],[]),(20,[20],[]),(26,[26],[]),(32,[32],[])],[]⟩
  | 159 => Tab.hints ⟨[],[],[],[],[],[[0,1,4],[5,6,7,8],[],[10,11,12,13],[],[15,16,17,18,19],[],[21,22,23,24],[],[26,27,28,29,30],[],[2,3,32,33,34,35,36]],[[],[],[],[],[],[],[],[],[],[],[],[2,3]],[(9,[9,3,2],[2,3]),(14,[14,2,3],[2,3]),(20,[20,3,2],[2,3]),(25,[25,2,3],[2,3]),(31,[31,3,2],[2,3]),(37,[37],[])],[(9,[9],[]),(14,[14],[]),(20,[20],[]),(25,[25],[]),(31,[31],[]),(37,[37],[])],[]⟩
  | 160 => Tab.hints ⟨[],[],[],[],[],[[0,1,4],[5,6,7,8],[],[10,11,12,13],[],[2,3,15,16,17,18,19]],[[],[],[],[],[],[2,3]],[(9,[9,2,3],[2,3]),(14,[14,3,2],[2,3]),(20,[20],[])],[(9,[9],[]),(14,[14],[]),(20,[20],[])],[]⟩
  | 161 => Tab.hints ⟨[],[],[],[],[],[[0,1,4],[5,6,7,8],[],[10,11,12,13],[],[15,16,17,18,19],[],[2,3,21,22,23,24,25]],[[],[],[],[],[],[],[],[2,3]],[(9,[9,3,2],[2,3]),(14,[14,2,3],[2,3]),(20,[20,3,2],[2,3]),(26,[26],[])],[(9,[9],[]),(14,[14],[]),(20,[20],[]),(26,[26],[])],[]⟩
  | 162 => Tab.hints ⟨[],[],[],[],[],[[0,4],[5,6,7,8,9],[10],[],[2,12,13,14,15,16],[17],[],[1,19]],[[],[],[],[],[2]],[(11,[11,2,1],[2]),(18,[18,1],[])],[(11,[11],[]),(18,[18],[])],[]⟩
  | 163 => Tab.hints ⟨[],[],[],[(0,[2,3,4,6,7,8,9,10,11,12,13,14,15,16,17,18,19,20,21,22,23,24,25,26])],[],[[4],[6,7,8,9],[10],[],[],[12,13,14],[16,17],[18,19,20,21,22,23],[24],[],[1,26]],[],[(11,[11,0,1],[]),(15,[15],[]),(25,[25,0,1,5],[])],[(11,[11],[]),(15,[15,0,5],[]),(25,[25],[])],[]⟩
  | 164 => Tab.hints ⟨[],[],[],[],[],[[2],[0,3,4,5,6,7,8,9,10,11,12,13,14,15,16,17]],[],[],[],[]⟩
  | 165 => Tab.hints ⟨[],[],[],[],[],[[0],[],[4,5,6],[1,7,8,9],[3,10]],[[],[],[],[1],[3]],[],[],[]⟩
  | 166 => Tab.hints ⟨[[0],[3],[],[],[],[],[0,1]],[],[],[(0,[1,2,5,6,7,8,9,10,11,12,13,14,15,16,17,18,19,20,21,22])],[],[[2],[5,6,7],[],[8,9,10],[12,13],[14,15,16,17,18,19,20,21],[3,22]],[[],[7]],[(11,[11],[])],[(11,[11,4,0],[])],[]⟩
  | 168 => Tab.hints ⟨[],[],[],[],[],[[4],[5,6],[0,1,8,9,10,11,12,13,14],[0,15]],[],[(7,[7],[])],[(7,[7,1],[])],[]⟩
  | 169 => Tab.hints ⟨[],[],[],[],[],[[4,5],[6,7,8],[0,10],[0,1,11,12,13,14,15,16,17]],[],[(9,[9,1],[])],[(9,[9],[])],[]⟩
  | 171 => Tab.hints ⟨[],[[],[],[],[],[5]],[],[(0,[2,3,4,5,6,9,10,11,12,13,14,15,16,17,18])],[],[[4],[6],[],[10],[11,12,13,14,15],[5,17],[18]],[],[(9,[9],[]),(16,[16,7,1,0,8],[])],[(9,[9,7,1,0,8],[]),(16,[16,5],[])],[]⟩
  | 172 => Tab.hints ⟨[[],[0]],[[],[2]],[],[],[],[[4],[0,1,5,6,7,8]],[],[],[],[]⟩
  | 173 => Tab.hints ⟨[],[],[],[],[],[[3],[0,1,4,5,6,7,8]],[],[],[],[]⟩
  | 174 => Tab.hints ⟨[],[],[],[],[],[[0,1,4],[5,6,7,8],[],[2,3,10,11,12,13]],[[],[],[],[2,3]],[(9,[9,3,2],[2,3]),(14,[14],[])],[(9,[9],[]),(14,[14],[])],[]⟩
  | 175 => Tab.hints ⟨[],[],[],[(0,[2,3,4,6,7,8,9,10,11,12,13,14,15,16,17,18,19,20,21,22,23,24,25,26])],[],[[4],[6,7,8,9],[],[],[11,12,13],[15,16],[17,18,19,20,21,22,23,24,25]],[],[(10,[10,0,1],[]),(14,[14],[]),(26,[26,0,1,5],[])],[(10,[10],[]),(14,[14,0,1,5],[]),(26,[26],[])],[]⟩
  | 176 => Tab.hints ⟨[],[],[],[],[],[[2],[],[5,6,7,8,9,10,11],[],[13,14,15],[0,3,16,17,18,19,20,21,22,23,24,25,26,27,28,29],[],[4,31]],[],[(12,[12,3],[]),(30,[30,4],[])],[(12,[12],[]),(30,[30],[])],[]⟩
  | 178 => Tab.hints ⟨[],[],[],[],[],[[2],[4,5],[0,3,6,7,8,9,10,11,12,13,14,15,16,17,18,19,20,21]],[],[],[],[]⟩
  | 179 => Tab.hints ⟨[],[[],[],[],[],[5]],[],[(0,[2,3,4,5,6,9,10,11,12,13,14,15,16,17,18])],[],[[4],[6],[],[10],[11,12,13,14,15],[5,17],[18]],[],[(9,[9],[]),(16,[16,7,1,0,8],[])],[(9,[9,7,1,0,8],[]),(16,[16,5],[])],[]⟩
  | 180 => Tab.hints ⟨[],[],[],[(0,[2,3,4,5,6,7,8,9,10,11,12,13,14,15,16,17])],[],[[4],[5,6,7,8,9,10,11,12,13],[15,16],[1,17]],[],[(14,[14],[])],[(14,[14,0],[])],[]⟩
  | 183 => Tab.hints ⟨[],[],[],[],[],[[4],[0,1,5,6,7]],[],[],[],[]⟩
  | 184 => Tab.hints ⟨[],[],[],[(0,[1,2,3,4,7,8,9,10,11,12,13,14,15,16])],[],[[2],[4],[],[8],[3,9,10,11,12],[],[14],[0,15,16]],[],[(7,[7],[]),(13,[13,5,0,6],[])],[(7,[7,5,6],[]),(13,[13],[])],[]⟩
  | 185 => Tab.hints ⟨[],[],[],[],[],[[2],[0,3,4,5,6,7,8]],[],[],[],[]⟩
  | 191 => Tab.hints ⟨[],[],[],[],[],[[4],[5,6],[0,1,8,9,10,11],[0,12]],[],[(7,[7],[])],[(7,[7,1],[])],[]⟩
  | 192 => Tab.hints ⟨[],[],[],[],[],[[2],[0,3,4,5,6,7,8]],[],[],[],[]⟩
  | 198 => Tab.hints ⟨[],[],[],[],[],[[4],[0,1,5,6,7,8,9,10,11,12,13,14,15,16,17]],[],[],[],[]⟩
  | _ => Tab.hints aV1
end Go.Vs
end
section
namespace Go.Vs
variable {m : Bool} {β : Type}
@[simp] theorem aG (x : Option β) : aA true x = x := rfl
@[simp] theorem aUs (x : Option β) : aA false x = none := rfl
@[simp] theorem aE (x y : Option β) : aB true x y = x := rfl
@[simp] theorem aD (x y : Option β) : aB false x y = y := rfl
theorem lR (b : Bool) (x y : Option β) : aB b x y = if b = true then x else y := by cases b <;> rfl
@[simp] theorem aVa (b : Bool) (k : Bool → Option β) : oM (.leaf (.bool b) : SV m) k = k b := rfl
@[simp] theorem aX (l : aC m) (k : aC m → Option β) : aM (.leaf l) k = k l := rfl
@[simp] theorem oG (c : Fl m) (es : List (List (aC m))) (k : Fl m → List (List (aC m)) → Option β) : kO (.leaf (.sl c es)) k = k c es := rfl
@[simp] theorem mZ (e : TypeId) (es : List (List (aC m))) (k : List (List (aC m)) → Option β) : pN e (.own (some e) es) k = k es := by simp [pN]
@[simp] theorem fT (cs : List (aC m)) (k : List (aC m) → Option β) : fA (.agg cs) k = k cs := rfl
@[simp] theorem qB (vs : List (SV m)) (k : List (SV m) → Option β) : lV (.tup vs) k = k vs := rfl
@[simp] theorem aVo (k : Option β) : aHg (.nilface : SV m) k = k := rfl
@[simp] theorem cB (k0 : IntKind) (n : Int) (k : Int → Option β) : dG k0 (.int k0 n : aC m) k = k n := by simp [dG]
@[simp] theorem cK (b : Bool) (k : Bool → Option β) : dY (.bool b : aC m) k = k b := rfl
@[simp] theorem bJ (s : ByteArray) (k : ByteArray → Option β) : cE (.str s : aC m) k = k s := rfl
@[simp] theorem dZ (c : Fl m) (es : List (List (aC m))) (k : Fl m → List (List (aC m)) → Option β) : slK (.sl c es) k = k c es := rfl
@[simp] theorem cJ (l : aC m) (e : List (aC m)) (k : aC m → Option β) : atK (l :: e) 0 k = k l := rfl
@[simp] theorem cN (l : aC m) (e : List (aC m)) (n : Nat) (k : aC m → Option β) : atK (l :: e) (n + 1) k = atK e n k := rfl
@[simp] theorem dV (e : List (aC m)) (k : List (aC m) → Option β) : gI e k = k e := rfl
@[simp] theorem qC (v : SV m) (r : List (SV m)) (k : SV m → List (SV m) → Option β) : cY (v :: r) k = k v r := rfl
@[simp] theorem tO (k : Option β) : hM ([] : List (SV m)) k = k := rfl
@[simp] theorem aCV (v : List (SV m)) (r : List (List (SV m))) (k : List (SV m) → List (List (SV m)) → Option β) : mO (v :: r) k = k v r := rfl
@[simp] theorem aBI (k : Option β) : jT ([] : List (List (SV m))) k = k := rfl
@[simp] theorem aVP (l : SV m) (e : List (SV m)) (k : SV m → Option β) : aHw (l :: e) 0 k = k l := rfl
@[simp] theorem aVQ (l : SV m) (e : List (SV m)) (n : Nat) (k : SV m → Option β) : aHw (l :: e) (n + 1) k = aHw e n k := rfl
@[simp] theorem aVT (a b : Fl false) : (a = b) = True := eq_true (by cases a; cases b; rfl)
theorem nS {z : Int} (h1 : -9223372036854775808 ≤ z) (h2 : z ≤ 9223372036854775807) : IntKind.i64.wrap z = z := by
  have e : IntKind.i64.wrap z = if z % 18446744073709551616 ≥ 9223372036854775808 then z % 18446744073709551616 - 18446744073709551616 else z % 18446744073709551616 := by
    simp [IntKind.wrap, IntKind.signed, IntKind.bits]
  rw [e]
  split <;> omega
theorem aUw {i : Nat} (h : i < 4611686018427387904) : IntKind.i64.wrap ((i : Int) + 1) = ((i + 1 : Nat) : Int) := by
  rw [nS (by omega) (by omega)]; rfl
theorem cF {n : Nat} {Q : Nat → Prop} (hn : Q n) (hs : ∀ i, i < n → Q (i + 1) → Q i) : ∀ i, i ≤ n → Q i := by
  intro i hi
  obtain ⟨k, rfl⟩ : ∃ k, n = i + k := ⟨n - i, by omega⟩
  induction k generalizing i with
  | zero => exact hn
  | succ k ih => exact hs i (by omega) (ih (i + 1) (by rw [show i + 1 + k = i + (k + 1) by omega]; exact hn) (by intro j hj; exact hs j (by omega)) (by omega))
def fV (l : List (List (aC m))) (i : Nat) (z : List (SV m)) : List (SV m) := (l.take i).flatten.map SV.leaf ++ z
theorem tY {α : Type} {z : Nat} : ∀ {l : List (List α)}, (∀ e ∈ l, e.length = z) → l.flatten.length = l.length * z
  | [], _ => by simp
  | e :: l, h => by
    have h1 := h e (by simp)
    have h2 := tY (l := l) (fun e he => h e (by simp [he]))
    rw [List.flatten_cons, List.length_append, h1, h2, List.length_cons, Nat.add_mul]; omega
theorem fL {l : List (List (aC m))} {k i : Nat} {z : List (SV m)} (h : ∀ e ∈ l, e.length = k) (hi : i ≤ l.length) : (fV l i z).length = i * k + z.length := by
  unfold fV
  rw [List.length_append, List.length_map, tY (z := k) (fun e he => h e (List.mem_of_mem_take he)), List.length_take, Nat.min_eq_left hi]
theorem nU {l : List (List (aC m))} {k i : Nat} {z : List (SV m)} (h : ∀ e ∈ l, e.length = k) (hi : i < l.length) :
    gN (fV l i z) (i * k) (l[i].map SV.leaf) = fV l (i + 1) (z.drop k) := by
  have hl : ((l.take i).flatten.map (SV.leaf (m := m))).length = i * k := by
    rw [List.length_map, tY (z := k) (fun e he => h e (List.mem_of_mem_take he)), List.length_take, Nat.min_eq_left (Nat.le_of_lt hi)]
  have hk : (l[i].map (SV.leaf (m := m))).length = k := by rw [List.length_map]; exact h _ (List.getElem_mem hi)
  unfold gN fV
  rw [hk, List.take_append_of_le_length (by omega), List.take_of_length_le (by omega), ← hl, List.drop_append, List.drop_of_length_le (by omega)]
  rw [List.take_succ_eq_append_getElem hi]
  simp only [List.flatten_append, List.map_append, List.flatten_cons, List.flatten_nil, List.append_nil, List.append_assoc, List.nil_append, Nat.add_sub_cancel_left]
theorem zQ : ∀ l : List (aC m), cM (l.map SV.leaf) = some l
  | [] => rfl
  | a :: l => by simp [cM, asLeaf, zQ l]
theorem fE {α : Type} {z : Nat} : ∀ {l : List (List α)}, (∀ e ∈ l, e.length = z) → kH z l.length l.flatten = l
  | [], _ => rfl
  | e :: l, h => by
    have h1 := h e (by simp)
    have h2 := fE (l := l) (fun e he => h e (by simp [he]))
    simp only [List.length_cons, kH, List.flatten_cons, ← h1, List.take_left', List.drop_left']
    rw [h1, h2]
theorem rL {l : List (List (aC m))} {k : Nat} {z : List (SV m)} (h : ∀ e ∈ l, e.length = k) : cM ((fV l l.length z).take (l.length * k)) = some l.flatten := by
  unfold fV
  have hl : (l.flatten.map (SV.leaf (m := m))).length = l.length * k := by rw [List.length_map, tY h]
  rw [List.take_length, List.take_append_of_le_length (by omega), List.take_of_length_le (by omega)]
  exact zQ _
end Go.Vs
end
