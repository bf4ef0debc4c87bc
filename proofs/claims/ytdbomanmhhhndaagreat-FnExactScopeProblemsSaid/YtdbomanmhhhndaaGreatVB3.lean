/- What the program's functions compute, read off their text by the shadow runner (VsFast, VsFast2, VsSub, VsLoop, VsAt, VsNm, UNm, UHs, VsTy, VsRow, VsRe); no condition. -/
import Derived.Test.YtdbomanmhhhndaaGreatRows
import Derived.KernelRfl
import Derived.ChangeArms
import Derived.DataReads
import Derived.Below
import Derived.Test.YtdbomanmhhhndaaGreatVB2
section
set_option linter.unusedVariables false
set_option linter.unusedSimpArgs false
namespace Go.Vs
variable {m : Bool}
section
variable {β : Type}
def cL (k0 : IntKind) (l : (aB m)) (k : Int → Option β) : Option β := match l with | .int k1 n => if k1 = k0 then k n else none | _ => none
def cU (l : (aB m)) (k : Bool → Option β) : Option β := match l with | .bool b => k b | _ => none
def bM (l : (aB m)) (k : ByteArray → Option β) : Option β := match l with | .str s => k s | _ => none
def slK (l : (aB m)) (k : Fl m → List (List (aB m)) → Option β) : Option β := match l with | .sl c es => k c es | _ => none
def aGt (P : Program) (t : TypeId) (l : (aB m)) (k : (aB m) → Option β) : Option β :=
  match P.underlying t with
  | some (.int k0) => cL k0 l fun n => k (.int k0 n)
  | some .bool => cU l fun b => k (.bool b)
  | some .string => bM l fun s => k (.str s)
  | some (.slice _) => slK l fun c es => k (.sl c es)
  | _ => none
def atK (e : List (aB m)) (p : Nat) (k : (aB m) → Option β) : Option β := match e[p]? with | some l => k l | none => none
def qR (P : Program) : List TypeId → List (aB m) → Nat → (List (aB m) → Option β) → Option β
  | [], _, _, k => k []
  | t :: ts, e, p, k => atK e p fun l => aGt P t l fun l' => qR P ts e (p + 1) fun ls => k (l' :: ls)
def aL5 (P : Program) : Nat → TypeId → Option (List TypeId)
  | 0, _ => none
  | n + 1, t => match P.underlying t with
    | some (.struct fs) => fs.toList.foldr (fun f r => (aL5 P n f.type).bind fun a => r.map (a ++ ·)) (some [])
    | some (.array _ _) | none => none
    | some _ => some [t]
def gC (e : List (aB m)) (k : List (aB m) → Option β) : Option β := k e
def aHT (P : Program) (t : TypeId) (e : List (aB m)) (p : Nat) (k : (SV m) → Option β) : Option β :=
  match iS P t with
  | true => (aL5 P 8 t).bind fun ts => (cT P t).bind fun n => if ts.length = n ∧ 0 < n then gC e fun e => qR P ts e p fun ls => k (.agg ls) else none
  | false => atK e p fun l => aGt P t l fun l' => k (.leaf l')
def aL (v : (SV m)) (k : (aB m) → Option β) : Option β := match v with | .leaf l => k l | _ => none
def iR (v : (SV m)) (k : Fl m → List (List (aB m)) → Option β) : Option β := match v with | .leaf (.sl c es) => k c es | _ => none
def kX (e : TypeId) (v : (SV m)) (k : List (List (aB m)) → Option β) : Option β := match v with | .own (some e') es => if e' = e then k es else none | _ => none
def aIC (e : TypeId) (v : (SV m)) (k : List (List (aB m)) → Option β) : Option β := match v with | .raw (some e') es => if e' = e then k es else none | _ => none
def aB3 (i z : Nat) (v : (SV m)) (k : Nat → Nat → Option β) : Option β := match v with | .bsl b z' lo n => if b = i ∧ z' = z then k lo n else none | _ => none
def aPk (P : Program) (t : TypeId) (cs : List (SV m)) (p n : Nat) (k : (SV m) → Option β) : Option β :=
  (bX ((cs.drop p).take n)).bind fun e => aHT P t e 0 k
def eA (v : (SV m)) (k : List (aB m) → Option β) : Option β := match v with | .agg cs => k cs | _ => none
def aDN (v : (SV m)) (k : Option β) : Option β := match v with | .nilface => k | _ => none
def lX (v : (SV m)) (k : List (SV m) → Option β) : Option β := match v with | .tup vs => k vs | _ => none
def aBV (P : Program) (own : Bool) (t : TypeId) (v : (SV m)) (k : (SV m) → Option β) : Option β :=
  match P.underlying t with
  | some (.slice e) => (match own with
    | true => kX e v fun es => k (.own (some e) es)
    | false => iR v fun c es => k (.leaf (.sl c es)))
  | some (.struct _) => eA v fun cs => (aL5 P 8 t).bind fun ts => aA (cs.length == ts.length) (qR P ts cs 0 fun ls => k (.agg ls))
  | some (.interface _) => aDN v (k .nilface)
  | some _ => aL v fun l => aGt P t l fun l' => k (.leaf l')
  | none => none
def jL (l : List (SV m)) (k : (SV m) → List (SV m) → Option β) : Option β := match l with | v :: r => k v r | [] => none
def kN (l : List (SV m)) (k : Option β) : Option β := match l with | [] => k | _ => none
def aA2 (P : Program) : List TypeId → List (SV m) → (List (SV m) → Option β) → Option β
  | [], l, k => kN l (k [])
  | t :: ts, l, k => jL l fun v r => aBV P false t v fun v' => aA2 P ts r fun vs => k (v' :: vs)
def aI7 (P : Program) (own : Bool) (t : TypeId) (v : (SV m)) (k : (SV m) → Option β) : Option β :=
  match P.underlying t with
  | some (.tuple ts) => lX v fun vs => aA2 P ts.toList vs fun vs' => k (.tup vs')
  | _ => aBV P own t v k
def aJt (c d : (SV m)) (k : (SV m) → Option β) : Option β :=
  match c with
  | .leaf (.int k0 _) => aL d fun l => cL k0 l fun n => k (.leaf (.int k0 n))
  | .leaf (.bool _) => aL d fun l => cU l fun b => k (.leaf (.bool b))
  | .leaf (.str _) => aL d fun l => bM l fun s => k (.leaf (.str s))
  | .leaf (.sl _ _) => iR d fun c es => k (.leaf (.sl c es))
  | .own (some e) _ => kX e d fun es => k (.own (some e) es)
  | _ => none
def aBs : List (SV m) → List (SV m) → (List (SV m) → Option β) → Option β
  | [], l, k => kN l (k [])
  | c :: cs, l, k => jL l fun d r => aJt c d fun d' => aBs cs r fun ds => k (d' :: ds)
def aDl (cs : List (SV m)) (p : Nat) (k : (SV m) → Option β) : Option β := match cs[p]? with | some c => k c | none => none
def aOx (P : Program) (t : TypeId) : Bool := match P.underlying t with | some (.int _) | some .bool | some .string | some (.slice _) => true | _ => false
def aJn (P : Program) (t : TypeId) (c : (SV m)) (k : (SV m) → Option β) : Option β := match aOx P t with | true => aBV P false t c.drop k | false => k c.drop
def qW (l : List (List (SV m))) (k : List (SV m) → List (List (SV m)) → Option β) : Option β := match l with | v :: r => k v r | [] => none
def kQ (l : List (List (SV m))) (k : Option β) : Option β := match l with | [] => k | _ => none
def aOW (row : Bool) (c d : List (SV m)) (k : List (SV m) → Option β) : Option β := match row with | true => k d | false => aBs c d k
def uR : List Bool → List (List (SV m)) → List (List (SV m)) → (List (List (SV m)) → Option β) → Option β
  | [], _, l, k => kQ l (k [])
  | w :: ws, [], l, k => kQ l (k [])
  | w :: ws, c :: cs, l, k => qW l fun d r => aOW w c d fun d' => uR ws cs r fun ds => k (d' :: ds)
end
section
variable {β : Type} {P : Program}
theorem aMO {k0 : IntKind} {l : (aB m)} {k : Int → Option β} {y : β} (h : cL k0 l k = some y) : ∃ n, l = .int k0 n ∧ k n = some y := by
  unfold cL at h
  split at h
  · split at h
    · rename_i hk; subst hk; exact ⟨_, rfl, h⟩
    · simp at h
  · simp at h
theorem aLb {l : (aB m)} {k : Bool → Option β} {y : β} (h : cU l k = some y) : ∃ n, l = .bool n ∧ k n = some y := by
  unfold cU at h; split at h
  · exact ⟨_, rfl, h⟩
  · simp at h
theorem aMy {l : (aB m)} {k : ByteArray → Option β} {y : β} (h : bM l k = some y) : ∃ n, l = .str n ∧ k n = some y := by
  unfold bM at h; split at h
  · exact ⟨_, rfl, h⟩
  · simp at h
theorem aPl {l : (aB m)} {k : Fl m → List (List (aB m)) → Option β} {y : β} (h : slK l k = some y) : ∃ c es, l = .sl c es ∧ k c es = some y := by
  unfold slK at h; split at h
  · exact ⟨_, _, rfl, h⟩
  · simp at h
theorem aHE {t : TypeId} {l : (aB m)} {k : (aB m) → Option β} {y : β} (h : aGt P t l k = some y) : k l = some y := by
  unfold aGt at h
  split at h
  · obtain ⟨n, rfl, h'⟩ := aMO h; exact h'
  · obtain ⟨n, rfl, h'⟩ := aLb h; exact h'
  · obtain ⟨n, rfl, h'⟩ := aMy h; exact h'
  · obtain ⟨c, es, rfl, h'⟩ := aPl h; exact h'
  · simp at h
theorem aN2 {e : List (aB m)} {p : Nat} {k : (aB m) → Option β} {y : β} (h : atK e p k = some y) : ∃ l, e[p]? = some l ∧ k l = some y := by
  unfold atK at h; split at h
  · exact ⟨_, by assumption, h⟩
  · simp at h
theorem aBk : ∀ (ts : List TypeId) (e : List (aB m)) (p : Nat) (k : List (aB m) → Option β) (y : β), qR P ts e p k = some y → (e.drop p).take ts.length = (e.drop p).take ts.length ∧ (ts.length = 0 ∨ p + ts.length ≤ e.length) ∧ k ((e.drop p).take ts.length) = some y
  | [], e, p, k, y, h => ⟨rfl, .inl rfl, by simpa [qR] using h⟩
  | t :: ts, e, p, k, y, h => by
    simp only [qR] at h
    obtain ⟨l, hl, h⟩ := aN2 h
    have h := aHE h
    obtain ⟨_, h2, h3⟩ := aBk ts e (p + 1) _ y h
    have hlt := (List.getElem?_eq_some_iff.1 hl).1
    have hd : e.drop p = l :: e.drop (p + 1) := by
      rw [List.drop_eq_getElem_cons hlt]
      congr 1
      exact (List.getElem?_eq_some_iff.1 hl).2
    refine ⟨rfl, .inr ?_, ?_⟩
    · simp only [List.length_cons]
      rcases h2 with h2 | h2 <;> omega
    · rw [hd]
      simpa using h3
theorem aLx {t : TypeId} {e : List (aB m)} {p : Nat} {k : (SV m) → Option β} {y : β} (h : aHT P t e p k = some y) : ∃ v, xN P t e p = some v ∧ k v = some y := by
  unfold aHT at h
  unfold xN
  split at h
  · rename_i ha
    rw [if_pos ha]
    rw [Option.bind_eq_some_iff] at h
    obtain ⟨ts, hts, h⟩ := h
    rw [Option.bind_eq_some_iff] at h
    obtain ⟨n, hn, h⟩ := h
    split at h
    · rename_i hl
      obtain ⟨_, h2, h3⟩ := aBk ts e p _ y h
      rw [hn]
      rw [hl.1] at h2 h3
      have hle : p + n ≤ e.length := by rcases h2 with h2 | h2 <;> omega
      exact ⟨.agg ((e.drop p).take n), by simp [hle], h3⟩
    · simp at h
  · rename_i ha
    rw [if_neg (by simp [ha])]
    obtain ⟨l, hl, h⟩ := aN2 h
    have h := aHE h
    exact ⟨.leaf l, by rw [hl]; rfl, h⟩
theorem zS {v : (SV m)} {k : (aB m) → Option β} {y : β} (h : aL v k = some y) : ∃ l, v = .leaf l ∧ k l = some y := by
  unfold aL at h; split at h
  · exact ⟨_, rfl, h⟩
  · simp at h
theorem aKJ {v : (SV m)} {k : Fl m → List (List (aB m)) → Option β} {y : β} (h : iR v k = some y) : ∃ c es, v = .leaf (.sl c es) ∧ k c es = some y := by
  unfold iR at h; split at h
  · exact ⟨_, _, rfl, h⟩
  · simp at h
theorem aJl {e : TypeId} {v : (SV m)} {k : List (List (aB m)) → Option β} {y : β} (h : kX e v k = some y) : ∃ es, v = .own (some e) es ∧ k es = some y := by
  unfold kX at h; split at h
  · split at h
    · rename_i he; subst he; exact ⟨_, rfl, h⟩
    · simp at h
  · simp at h
theorem aM3 {v : (SV m)} {k : List (aB m) → Option β} {y : β} (h : eA v k = some y) : ∃ cs, v = .agg cs ∧ k cs = some y := by
  unfold eA at h; split at h
  · exact ⟨_, rfl, h⟩
  · simp at h
theorem aM9 {v : (SV m)} {k : Option β} {y : β} (h : aDN v k = some y) : v = .nilface ∧ k = some y := by
  unfold aDN at h; split at h
  · exact ⟨rfl, h⟩
  · simp at h
theorem aND {v : (SV m)} {k : List (SV m) → Option β} {y : β} (h : lX v k = some y) : ∃ vs, v = .tup vs ∧ k vs = some y := by
  unfold lX at h; split at h
  · exact ⟨_, rfl, h⟩
  · simp at h
theorem aLh {l : List (SV m)} {k : (SV m) → List (SV m) → Option β} {y : β} (h : jL l k = some y) : ∃ v r, l = v :: r ∧ k v r = some y := by
  unfold jL at h; split at h
  · exact ⟨_, _, rfl, h⟩
  · simp at h
theorem aLy {l : List (SV m)} {k : Option β} {y : β} (h : kN l k = some y) : l = [] ∧ k = some y := by
  unfold kN at h; split at h
  · exact ⟨rfl, h⟩
  · simp at h
theorem aFz {own : Bool} {t : TypeId} {v : (SV m)} {k : (SV m) → Option β} {y : β} (h : aBV P own t v k = some y) : k v = some y := by
  unfold aBV at h
  split at h
  · split at h
    · obtain ⟨es, rfl, h'⟩ := aJl h; exact h'
    · obtain ⟨c, es, rfl, h'⟩ := aKJ h; exact h'
  · obtain ⟨cs, rfl, h'⟩ := aM3 h
    rw [Option.bind_eq_some_iff] at h'
    obtain ⟨ts, hts, h2⟩ := h'
    obtain ⟨hl, h3⟩ := aV h2
    obtain ⟨_, _, h4⟩ := aBk ts cs 0 _ y h3
    have hl' : cs.length = ts.length := by simpa using hl
    rw [← hl', List.drop_zero, List.take_length] at h4
    exact h4
  · obtain ⟨rfl, h'⟩ := aM9 h; exact h'
  · obtain ⟨l, rfl, h'⟩ := zS h
    exact aHE h'
  · simp at h
theorem aIU : ∀ (ts : List TypeId) (l : List (SV m)) (k : List (SV m) → Option β) (y : β), aA2 P ts l k = some y → k l = some y
  | [], l, k, y, h => by
    simp only [aA2] at h
    obtain ⟨rfl, h'⟩ := aLy h
    exact h'
  | t :: ts, l, k, y, h => by
    simp only [aA2] at h
    obtain ⟨v, r, rfl, h'⟩ := aLh h
    exact aIU ts r _ y (aFz h')
theorem aNZ {own : Bool} {t : TypeId} {v : (SV m)} {k : (SV m) → Option β} {y : β} (h : aI7 P own t v k = some y) : k v = some y := by
  unfold aI7 at h
  split at h
  · obtain ⟨vs, rfl, h'⟩ := aND h
    exact aIU _ _ _ y h'
  · exact aFz h
theorem aNV {c d : (SV m)} {k : (SV m) → Option β} {y : β} (h : aJt c d k = some y) : k d = some y := by
  unfold aJt at h
  split at h
  · obtain ⟨l, rfl, h1⟩ := zS h; obtain ⟨n, rfl, h2⟩ := aMO h1; exact h2
  · obtain ⟨l, rfl, h1⟩ := zS h; obtain ⟨n, rfl, h2⟩ := aLb h1; exact h2
  · obtain ⟨l, rfl, h1⟩ := zS h; obtain ⟨n, rfl, h2⟩ := aMy h1; exact h2
  · obtain ⟨c, es, rfl, h1⟩ := aKJ h; exact h1
  · obtain ⟨es, rfl, h1⟩ := aJl h; exact h1
  · simp at h
theorem aI1 : ∀ (cs l : List (SV m)) (k : List (SV m) → Option β) (y : β), aBs cs l k = some y → k l = some y
  | [], l, k, y, h => by
    simp only [aBs] at h
    obtain ⟨rfl, h'⟩ := aLy h
    exact h'
  | c :: cs, l, k, y, h => by
    simp only [aBs] at h
    obtain ⟨v, r, rfl, h'⟩ := aLh h
    exact aI1 cs r _ y (aNV h')
theorem aLf {l : List (List (SV m))} {k : List (List (SV m)) → Option β} {y : β} (h : kQ l (k []) = some y) : k l = some y := by
  unfold kQ at h
  split at h
  · exact h
  · simp at h
theorem aO1 {row : Bool} {c d : List (SV m)} {k : List (SV m) → Option β} {y : β} (h : aOW row c d k = some y) : k d = some y := by
  cases row
  · exact aI1 c d k y h
  · exact h
theorem aJq : ∀ (ws : List Bool) (cs l : List (List (SV m))) (k : List (List (SV m)) → Option β) (y : β), uR ws cs l k = some y → k l = some y
  | [], _, l, k, y, h => aLf (by simpa only [uR] using h)
  | w :: ws, [], l, k, y, h => aLf (by simpa only [uR] using h)
  | w :: ws, c :: cs, l, k, y, h => by
    simp only [uR] at h
    unfold qW at h
    split at h
    · rename_i v r
      have h2 := aO1 h
      exact aJq ws cs r (fun ds => k (v :: ds)) y h2
    · simp at h
theorem aON {cs : List (SV m)} {p : Nat} {k : (SV m) → Option β} {y : β} (h : aDl cs p k = some y) : ∃ c, cs[p]? = some c ∧ k c = some y := by
  unfold aDl at h; split at h
  · exact ⟨_, by assumption, h⟩
  · simp at h
theorem aN7 {t : TypeId} {c : (SV m)} {k : (SV m) → Option β} {y : β} (h : aJn P t c k = some y) : k c.drop = some y := by
  unfold aJn at h
  split at h
  · exact aFz h
  · exact h
end
def aOL (op : BinOp) (k : IntKind) (a b : Int) : Option (Bool × (aB m)) :=
  match op with
  | .quo => some (!(b == 0), .int k (k.wrap (a.tdiv b)))
  | .rem => some (!(b == 0), .int k (a.tmod b))
  | .shl => some (decide (0 ≤ b), .int k (k.wrap (a * 2 ^ min b.toNat k.bits)))
  | .shr => some (decide (0 ≤ b), .int k (a.fdiv (2 ^ min b.toNat k.bits)))
  | op => (aAu op k a b).map fun l => (true, l)
def aPy (op : BinOp) (x y : ByteArray) : Option (Bool × (aB m)) :=
  match op with
  | .add => some (decide (x.size + y.size ≤ 140737488355328), .str (x ++ y))
  | op => (aJu op x y).map fun l => (true, l)
def aPq (P : Program) (op : BinOp) (t : TypeId) (x y : (SV m)) : Option (Bool × (SV m)) :=
  match x.drop, y.drop with
  | .leaf (.int k a), .leaf (.int k' b) =>
    if aHh op = true then (aOL op k a b).map fun p => (p.1, .leaf p.2)
    else if k = k' then (aOL op k a b).map fun p => (p.1, .leaf p.2) else none
  | .leaf (.str a), .leaf (.str b) => (aPy op a b).map fun p => (p.1, .leaf p.2)
  | _, _ => (aKn P op t x y).map fun v => (true, v)
theorem aOm {op : BinOp} {k : IntKind} {a b : Int} {p : Bool × (aB m)} (h : aOL op k a b = some p) (hp : p.1 = true) : aAu op k a b = some p.2 := by
  cases op <;> simp only [aOL] at h <;> try (rw [Option.map_eq_some_iff] at h; obtain ⟨l, hl, rfl⟩ := h; exact hl)
  all_goals (simp only [Option.some.injEq] at h; subst h; simp at hp)
  · simp [aAu, hp]
  · simp [aAu, hp]
  · simp only [aAu]; rw [if_neg (by omega)]
  · simp only [aAu]; rw [if_neg (by omega)]
theorem aPi {op : BinOp} {a b : ByteArray} {p : Bool × (aB m)} (h : aPy op a b = some p) (hp : p.1 = true) : aJu op a b = some p.2 := by
  cases op <;> simp only [aPy] at h <;> try (rw [Option.map_eq_some_iff] at h; obtain ⟨l, hl, rfl⟩ := h; exact hl)
  simp only [Option.some.injEq] at h; subst h; simp at hp
  simp [aJu, hp]
theorem aPn {P : Program} {op : BinOp} {t : TypeId} {x y : (SV m)} {p : Bool × (SV m)} (h : aPq P op t x y = some p) (hp : p.1 = true) : aKn P op t x y = some p.2 := by
  unfold aPq at h
  split at h
  · rename_i k a k' b ex ey
    unfold aKn
    rw [ex, ey]
    simp only
    split at h
    · rename_i hs
      rw [if_pos hs]
      rw [Option.map_eq_some_iff] at h ⊢
      obtain ⟨q, hq, rfl⟩ := h
      exact ⟨q.2, aOm hq hp, rfl⟩
    · rename_i hs
      rw [if_neg hs]
      split at h
      · rename_i hk
        rw [if_pos hk]
        rw [Option.map_eq_some_iff] at h ⊢
        obtain ⟨q, hq, rfl⟩ := h
        exact ⟨q.2, aOm hq hp, rfl⟩
      · simp at h
  · rename_i a b ex ey
    unfold aKn
    rw [ex, ey]
    simp only
    rw [Option.map_eq_some_iff] at h ⊢
    obtain ⟨q, hq, rfl⟩ := h
    exact ⟨q.2, aPi hq hp, rfl⟩
  · rw [Option.map_eq_some_iff] at h
    obtain ⟨v, hv, rfl⟩ := h
    exact hv
def aPL : (SV m) → Option (Bool × Nat)
  | .leaf (.int _ n) => some (decide (0 ≤ n), n.toNat)
  | _ => none
def aOe (ρ : Operand → (SV m)) : Option Operand → Option (Bool × Option Nat)
  | none => some (true, none)
  | some x => (aPL (ρ x)).map fun p => (p.1, some p.2)
theorem aNU {ρ : Operand → (SV m)} {x : Option Operand} {p : Bool × Option Nat} (h : aOe ρ x = some p) (hp : p.1 = true) : jN ρ x = some p.2 := by
  cases x with
  | none => simp [aOe] at h; subst h; rfl
  | some x =>
    simp only [aOe, Option.map_eq_some_iff] at h
    obtain ⟨q, hq, rfl⟩ := h
    simp only [jN]
    unfold aPL at hq
    split at hq
    · rename_i k n hx
      simp only [Option.some.injEq] at hq
      subst hq
      have : 0 ≤ n := of_decide_eq_true hp
      simp [aMC, hx, this]
    · simp at hq
def aMe (P : Program) (t : TypeId) (x : (SV m)) (lo hi : Option Nat) : Option (Bool × (SV m)) :=
  match P.underlying t, x.drop with
  | some (.slice _), .bsl b z k n =>
    (nQ P t).bind fun e => (cT P e).bind fun z' => if z' = z then some (decide (lo.getD 0 ≤ hi.getD n) && decide (hi.getD n ≤ n), .bsl b z (k + lo.getD 0) (hi.getD n - lo.getD 0)) else none
  | some .string, .leaf (.str b) => some (decide (lo.getD 0 ≤ hi.getD b.size) && decide (hi.getD b.size ≤ b.size), .leaf (.str (b.extract (lo.getD 0) (hi.getD b.size))))
  | some (.slice _), .leaf (.sl c es) =>
    (nQ P t).bind fun e => (cT P e).bind fun z =>
      some (decide (lo.getD 0 ≤ hi.getD es.length) && decide (hi.getD es.length ≤ es.length) && sized z es, .leaf (.sl (c.later lo) ((es.take (hi.getD es.length)).drop (lo.getD 0))))
  | _, _ => none
theorem aN4 {P : Program} {t : TypeId} {x : (SV m)} {lo hi : Option Nat} {p : Bool × (SV m)} (h : aMe P t x lo hi = some p) (hp : p.1 = true) : aAc P t x lo hi = some p.2 := by
  unfold aMe at h
  split at h
  · rename_i e b z k n hu ex
    rw [Option.bind_eq_some_iff] at h
    obtain ⟨e', he, h⟩ := h
    rw [Option.bind_eq_some_iff] at h
    obtain ⟨z', hz, h⟩ := h
    split at h
    · rename_i hzz
      simp only [Option.some.injEq] at h; subst h
      simp only [Bool.and_eq_true, decide_eq_true_eq] at hp
      unfold aAc
      rw [hu, ex]
      simp only [he, hz, Option.bind_some]
      rw [if_pos ⟨hp, hzz⟩]
    · simp at h
  · rename_i b hu ex
    simp only [Option.some.injEq] at h; subst h
    simp only [Bool.and_eq_true, decide_eq_true_eq] at hp
    unfold aAc
    rw [hu, ex]
    simp only
    rw [if_pos hp]
  · rename_i e c es hu ex
    rw [Option.bind_eq_some_iff] at h
    obtain ⟨e', he, h⟩ := h
    rw [Option.bind_eq_some_iff] at h
    obtain ⟨z, hz, h⟩ := h
    simp only [Option.some.injEq] at h; subst h
    simp only [Bool.and_eq_true, decide_eq_true_eq] at hp
    unfold aAc
    rw [hu, ex]
    simp only [he, hz, Option.bind_some]
    rw [if_pos hp.1, hp.2]
    rfl
  · simp at h
def aDz (P : Program) (t : TypeId) (x i : (SV m)) : Option (Bool × (SV m)) :=
  match nQ P t, x.drop, i with
  | some e, .bsl b z lo k, .leaf (.int _ n) => (cT P e).bind fun z' => if z' = z ∧ 0 < z then some (decide (0 ≤ n) && decide (n < (k : Int)), .ptr b ((lo + n.toNat) * z)) else none
  | some e, .leaf (.sl c es), .leaf (.int _ n) => (cT P e).bind fun z =>
    some (decide (0 ≤ n) && decide (n < (es.length : Int)) && sized z es, .eptr c (es.getD n.toNat []) 0)
  | _, _, _ => none
theorem aJB {P : Program} {t : TypeId} {x i : (SV m)} {p : Bool × (SV m)} (h : aDz P t x i = some p) (hp : p.1 = true) : nH P t x i = some p.2 := by
  unfold aDz at h
  split at h
  · rename_i e b z lo q kk n he ex
    rw [Option.bind_eq_some_iff] at h
    obtain ⟨z', hz, h⟩ := h
    split at h
    · rename_i hzz
      simp only [Option.some.injEq] at h; subst h
      simp only [Bool.and_eq_true, decide_eq_true_eq] at hp
      unfold nH
      rw [he, ex]
      simp only [hz, Option.bind_some]
      rw [if_pos hp.1, if_pos hp.2, if_pos hzz]
    · simp at h
  · rename_i e c es k n he ex
    rw [Option.bind_eq_some_iff] at h
    obtain ⟨z, hz, h⟩ := h
    simp only [Option.some.injEq] at h; subst h
    simp only [Bool.and_eq_true, decide_eq_true_eq] at hp
    unfold nH
    rw [he, ex]
    simp only [hz, Option.bind_some]
    rw [if_pos hp.1.1, if_pos hp.1.2, hp.2]
    rfl
  · simp at h
def aNW (P : Program) (t : TypeId) (l c : (SV m)) : Option (Bool × ((Nat × Nat) × List (SV m))) :=
  match l, c with
  | .leaf (.int _ a), .leaf (.int _ b) =>
    (nQ P t).bind fun e => (P.info? e).bind fun i => (mX P e).bind fun ze => aA (decide (0 < i.size) && ze.length == i.size) <|
      some (decide (0 ≤ a) && a == b && decide (a.toNat * i.bytes ≤ aK) && decide (a.toNat ≤ aK), ((i.size, a.toNat), ((List.replicate a.toNat ze).flatten.map .leaf)))
  | _, _ => none
theorem aO3 {P : Program} {t : TypeId} {x y : (SV m)} {p : Bool × ((Nat × Nat) × List (SV m))} (h : aNW P t x y = some p) (hp : p.1 = true) : aJg P t x y = some p.2 := by
  unfold aNW at h
  split at h
  · rename_i k1 a k2 b
    rw [Option.bind_eq_some_iff] at h
    obtain ⟨e, he, h⟩ := h
    rw [Option.bind_eq_some_iff] at h
    obtain ⟨i, hi, h⟩ := h
    rw [Option.bind_eq_some_iff] at h
    obtain ⟨ze, hze, h⟩ := h
    obtain ⟨hg, h⟩ := aV h
    simp only [Option.some.injEq] at h; subst h
    simp only [Bool.and_eq_true, decide_eq_true_eq, beq_iff_eq] at hp hg
    unfold aJg
    simp only [he, hi, hze, Option.bind_some]
    rw [if_pos ⟨⟨hp.1.1.1, hp.1.1.2⟩, ⟨hg.1, hp.1.2, hp.2⟩, hg.2⟩]
  · simp at h
def aMv (P : Program) (t : TypeId) (x i : (SV m)) : Option (Bool × (SV m)) :=
  match P.underlying t, x, i with
  | some .string, .leaf (.str s), .leaf (.int _ n) => some (decide (0 ≤ n) && decide (n < (s.size : Int)), .leaf (.int .u8 (s.data.toList.getD n.toNat 0).toNat))
  | _, _, _ => none
theorem aNY {P : Program} {t : TypeId} {x i : (SV m)} {p : Bool × (SV m)} (h : aMv P t x i = some p) (hp : p.1 = true) : aDp P t x i = some p.2 := by
  unfold aMv at h
  split at h
  · rename_i s k n hu
    simp only [Option.some.injEq] at h; subst h
    simp only [Bool.and_eq_true, decide_eq_true_eq] at hp
    unfold aDp
    rw [hu]
    simp only
    rw [if_pos hp.1, if_pos hp.2]
  · simp at h
def aJE (P : Program) (argTypes : Array TypeId) (x y : (SV m)) : Option (Bool × (SV m)) :=
  match argTypes.toList, x with
  | [t, u], .own eo es =>
    (nQ P t).bind fun e => (P.info? e).bind fun i => aA (eo.getD e == e && decide (0 < i.size) && decide (0 < i.bytes) && nI P e) <|
      match P.underlying u, y.see with
      | some (.slice _), .leaf (.sl _ fs) => if t = u then some (decide ((es.length + fs.length) * i.bytes ≤ aK) && sized i.size fs, .own (some e) (es ++ fs)) else none
      | some .string, .leaf (.str s) => aA (sO P e) (some (decide (es.length + s.size ≤ aK), .own (some e) (es ++ s.data.toList.map fun b => [.int .u8 b.toNat])))
      | _, _ => none
  | [t, u], .raw eo es =>
    (nQ P t).bind fun e => (P.info? e).bind fun i => aA (eo.getD e == e && decide (0 < i.size) && decide (0 < i.bytes) && nI P e) <|
      match P.underlying u, y.see with
      | some (.slice _), .leaf (.sl _ fs) => if t = u then some (decide ((es.length + fs.length) * i.bytes ≤ aK) && sized i.size fs, .raw (some e) (es ++ fs)) else none
      | some .string, .leaf (.str s) => aA (sO P e) (some (decide (es.length + s.size ≤ aK), .raw (some e) (es ++ s.data.toList.map fun b => [.int .u8 b.toNat])))
      | _, _ => none
  | _, _ => none
theorem aNA {P : Program} {ts : Array TypeId} {x y : (SV m)} {p : Bool × (SV m)} (h : aJE P ts x y = some p) (hp : p.1 = true) : zX P ts x y = some p.2 := by
  unfold aJE at h
  split at h
  · rename_i t u eo es hts
    rw [Option.bind_eq_some_iff] at h
    obtain ⟨e, he, h⟩ := h
    rw [Option.bind_eq_some_iff] at h
    obtain ⟨i, hi, h⟩ := h
    obtain ⟨hg, h⟩ := aV h
    unfold zX
    rw [hts]
    simp only [he, hi, Option.bind_some, hg, aA]
    split at h
    · rename_i e2 c fs hu hy
      rw [hu, hy]
      simp only
      split at h
      · rename_i htu
        simp only [Option.some.injEq] at h; subst h
        simp only [Bool.and_eq_true, decide_eq_true_eq] at hp
        rw [if_pos ⟨htu, hp.1⟩, hp.2]
      · simp at h
    · rename_i s hu hy
      rw [hu, hy]
      simp only
      obtain ⟨hz, h⟩ := aV h
      simp only [Option.some.injEq] at h; subst h
      have hp' := of_decide_eq_true hp
      rw [if_pos hp', hz]
    · simp at h
  · rename_i t u eo es hts
    rw [Option.bind_eq_some_iff] at h
    obtain ⟨e, he, h⟩ := h
    rw [Option.bind_eq_some_iff] at h
    obtain ⟨i, hi, h⟩ := h
    obtain ⟨hg, h⟩ := aV h
    unfold zX
    rw [hts]
    simp only [he, hi, Option.bind_some, hg, aA]
    split at h
    · rename_i e2 c fs hu hy
      rw [hu, hy]
      simp only
      split at h
      · rename_i htu
        simp only [Option.some.injEq] at h; subst h
        simp only [Bool.and_eq_true, decide_eq_true_eq] at hp
        rw [if_pos ⟨htu, hp.1⟩, hp.2]
      · simp at h
    · rename_i s hu hy
      rw [hu, hy]
      simp only
      obtain ⟨hz, h⟩ := aV h
      simp only [Option.some.injEq] at h; subst h
      have hp' := of_decide_eq_true hp
      rw [if_pos hp', hz]
    · simp at h
  · simp at h
def aMw : List (aB m) → Bool | [.int .u8 _] => true | _ => false
def aHS : List (aB m) → UInt8 | [.int .u8 n] => UInt8.ofNat n.toNat | _ => 0
def aOg (P : Program) (src dst : TypeId) (x : (SV m)) : Option (Bool × (SV m)) :=
  match P.underlying src, P.underlying dst, x.drop with
  | some (.slice e), some .string, .leaf (.sl _ es) =>
    match P.underlying e with
    | some (.int .u8) => some (es.all aMw, .leaf (.str ⟨(es.map aHS).toArray⟩))
    | _ => none
  | _, _, _ => (aGx P src dst x).map fun v => (true, v)
theorem aIV : ∀ (es : List (List (aB m))), es.all aMw = true → kJ es = some (es.map aHS)
  | [], _ => rfl
  | e :: es, h => by
    simp only [List.all_cons, Bool.and_eq_true] at h
    have ih := aIV es h.2
    have h1 := h.1
    unfold aMw at h1
    split at h1
    · simp [kJ, ih, aHS]
    · simp at h1
theorem aO0 {P : Program} {src dst : TypeId} {x : (SV m)} {p : Bool × (SV m)} (h : aOg P src dst x = some p) (hp : p.1 = true) : aGx P src dst x = some p.2 := by
  unfold aOg at h
  split at h
  · rename_i e c es hs hd ex
    unfold aGx
    rw [hs, hd, ex]
    simp only
    split at h
    · rename_i he
      simp only [Option.some.injEq] at h; subst h
      rw [he]
      simp [aIV es hp]
    · simp at h
  · rw [Option.map_eq_some_iff] at h
    obtain ⟨v, hv, rfl⟩ := h
    exact hv
end Go.Vs
end
section
namespace Go.Vs
variable {m : Bool}
section
variable {β : Type}
def aMf (P : Program) (own : Bool) (rk : Nat) (dst : Option Tmp) (t : TypeId) (v : (SV m)) (k : (SV m) → Option β) : Option β := match rk with
  | 0 => (match dst with | none => k v | some _ => aI7 P own t v k)
  | 1 => (nQ P t).bind fun e => aIC e v fun es => k (.raw (some e) es)
  | r + 2 => aB3 (r % 16) (r / 16) v fun lo n => k (.bsl (r % 16) (r / 16) lo n)
def aPu (args : List (SV m)) : List Nat := args.flatMap fun | .bsl b _ _ _ => [b] | _ => []
def aFP (P : Program) (D : (bA m)) (s : (St m)) (own pureHint : Bool) (rk : Nat) (f : FuncId) (args : List (SV m)) (dst : Option Tmp) (t : TypeId) (k : (St m) → Option β) : Option β :=
  aA (args.all SV.handed) <|
    match pureHint with
    | true => aA (hQ args).isEmpty ((D f args []).bind fun r => aMf P own rk dst t r.1 fun v => k (s.put dst v))
    | false => (oX s.boxes (hQ args)).bind fun cs => aA (cs.all (·.all SV.flat)) <|
        (D f (args.map (SV.ren (fF (hQ args)))) cs).bind fun r => uR ((hQ args).map (aPu args).contains) cs r.2 fun bs => aMf P own rk dst t r.1 fun v => k (({ s with boxes := fW s.boxes (hQ args) bs } : (St m)).put dst (v.ren ((hQ args).getD · 0)))
def refine (s : (St m)) (x : Operand) (b : Bool) : (St m) := match x with | .tmp t => s.put (some t) (.leaf (.bool b)) | _ => s
def aJH (s : (St m)) (t : Tmp) (want : Bool) (x y : (St m) → Option β) : Option β :=
  match s.tmps.getD t .any with
  | .leaf (.bool b) => aC (b == want) (x (refine s (.tmp t) want)) (y (refine s (.tmp t) !want))
  | .skip => y s
  | _ => none
def hM (cs : List (SV m)) (p : Nat) (vs : List (SV m)) : List (SV m) := cs.take p ++ vs ++ cs.drop (p + vs.length)
def eI (P : Program) (D : (bA m)) (nt : Nat) (mv pu ta : Bool) (rk : Nat) (o : Oper) (s : (St m)) (k : (St m) → Option β) : Option β :=
  match o.op with
  | .pick c a b => lL (s.eval c) fun t => aC t (k ((refine s c true).put o.dst ((refine s c true).eval a).drop)) (k ((refine s c false).put o.dst ((refine s c false).eval b).drop))
  | .load t x => (match s.eval x with
    | .eptr _ e p => aHT P t e p fun v => k (s.put o.dst v)
    | .ptr b p => (match iS P t, mv, rk with
      | false, false, _ => (s.box b).bind fun cs => aDl cs p fun c => aJn P t c fun v => k (s.put o.dst v)
      | true, _, 1 => (s.box b).bind fun cs => (cT P t).bind fun n => aA (decide (p + n ≤ cs.length)) (aPk P t cs p n fun v => k (s.put o.dst v))
      | _, _, _ => eK P D nt mv pu ta o s k)
    | _ => eK P D nt mv pu ta o s k)
  | .store t x y => (match s.eval x with
    | .ptr b p => (s.box b).bind fun cs => (cT P t).bind fun n => aA ((s.eval y).data || aAX (s.eval y)) (aA (n == (s.eval y).cells.length && decide (p + n ≤ cs.length)) (k (((s.take y).setBox b (some (hM cs p (s.eval y).cells))).put o.dst .skip)))
    | _ => eK P D nt mv pu ta o s k)
  | .makeSlice t l c => (match o.dst with
    | some d => (match s.box d with
      | none => aA (decide (d < nt)) ((aNW P t (s.eval l) (s.eval c)).bind fun p => aA p.1 (k ((s.setBox d (some p.2.2)).put o.dst (.bsl d p.2.1.1 0 p.2.1.2))))
      | some _ => none)
    | none => none)
  | .binOp op t x y _ => (aPq P op t (s.eval x) (s.eval y)).bind fun p => aA p.1 (k (s.put o.dst p.2))
  | .convert src dst x => (aOg P src dst (s.eval x)).bind fun p => aA p.1 (k (s.put o.dst p.2))
  | .slice t x lo hi none => (aOe s.eval lo).bind fun l => (aOe s.eval hi).bind fun h => (aMe P t (s.eval x) l.2 h.2).bind fun p => aA (l.1 && h.1 && p.1) (k (s.put o.dst p.2))
  | .indexAddr t x i => (aDz P t (s.eval x) (s.eval i)).bind fun p => aA p.1 (k (s.put o.dst p.2))
  | .index t x i => (aMv P t (s.eval x) (s.eval i)).bind fun p => aA p.1 (k (s.put o.dst p.2))
  | .call c => (match c.callee with
    | .builtin .append => (match c.args.toList with
      | [x, y] => (aJE P c.argTypes (s.eval x) (s.eval y)).bind fun p => aA p.1 (k ((s.take x).put o.dst p.2))
      | _ => none)
    | .builtin .clear => (match c.args.toList with
      | [x] => (match s.eval x with
        | .bsl b z lo n => (s.box b).bind fun cs => (c.argTypes[0]?).bind fun t => (nQ P t).bind fun e => (mX P e).bind fun ze => aA (ze.length == z && decide (0 < z)) (aA (decide ((lo + n) * z ≤ cs.length)) (k ((s.setBox b (some (hM cs (lo * z) ((List.replicate n ze).flatten.map .leaf)))).put o.dst .any)))
        | _ => none)
      | _ => none)
    | .value g => (match s.eval g with
      | .fn f caps => aA (decide (bZ c.args.toList).Nodup) (aFP P D (s.takes (vO ta c.args.toList)) mv pu rk f (c.args.toList.map (nX ta s.eval) ++ caps) o.dst o.type k)
      | _ => none)
    | _ => eK P D nt mv pu ta o s k)
  | _ => eK P D nt mv pu ta o s k
def aFQ (P : Program) (D : (bA m)) (nt : Nat) (mv pu ta : Bool) (rk : Nat) (ops : Array Oper) (o : Oper) (s : (St m)) (k : (St m) → Option β) : Option β :=
  match o.guard with
  | none => eI P D nt mv pu ta rk o s k
  | some (j, want) => match (ops[j]?).bind (·.dst) with
    | some t => aJH s t want (fun s => eI P D nt mv pu ta rk o s k) (fun s => k (s.put o.dst .skip))
    | none => none
def vS (P : Program) (D : (bA m)) (nt : Nat) (mv pu ta : Nat → Bool) (rk : Nat → Nat) (ops : Array Oper) : List Oper → Nat → (St m) → ((St m) → Option β) → Option β
  | [], _, s, k => k s
  | o :: r, i, s, k => aFQ P D nt (mv i) (pu i) (ta i) (rk i) ops o s fun s' => vS P D nt mv pu ta rk ops r (i + 1) s' k
def aP3 (H : eX) (r i : Nat) : Nat := (((H.fz (1048577 + r)).find? fun x => x % 4096 == i).map (· / 4096)).getD 0
end
section
variable {β : Type}
def aOE (v : (SV m)) (k : (SV m) → Option β) : Option β :=
  match v with
  | .any => k .any
  | .skip => k .skip
  | .leaf l => k (.leaf l)
  | .own e es => k (.own e es)
  | .raw e es => k (.raw e es)
  | .agg cs => k (.agg cs)
  | .ptr b o => k (.ptr b o)
  | .eptr c e o => k (.eptr c e o)
  | .bsl b z lo n => k (.bsl b z lo n)
  | .kfn f cs => k (.kfn f cs)
  | .nilptr => k .nilptr
  | .nilface => k .nilface
  | .fn f caps => k (.fn f caps)
  | .tup vs => k (.tup vs)
theorem aNe (v : (SV m)) (k : (SV m) → Option β) : aOE v k = k v := by cases v <;> rfl
def aJC : List (SV m) → (List (SV m) → Option β) → Option β
  | [], k => k []
  | v :: l, k => aOE v fun v' => aJC l fun l' => k (v' :: l')
theorem aJp : ∀ (l : List (SV m)) (k : List (SV m) → Option β), aJC l k = k l
  | [], _ => rfl
  | v :: l, k => by simp only [aJC, aNe, aJp l]
def aFo : List (Option (List (SV m))) → (List (Option (List (SV m))) → Option β) → Option β
  | [], k => k []
  | none :: l, k => aFo l fun l' => k (none :: l')
  | some c :: l, k => aFo l fun l' => k (some c :: l')
theorem aFv : ∀ (l : List (Option (List (SV m)))) (k : List (Option (List (SV m))) → Option β), aFo l k = k l
  | [], _ => rfl
  | none :: l, k => by simp only [aFo, aFv l]
  | some c :: l, k => by simp only [aFo, aFv l]
def rW (s : (St m)) (k : (St m) → Option β) : Option β := aJC s.tmps fun t => aFo s.boxes fun b => k ⟨t, b⟩
theorem pF (s : (St m)) (k : (St m) → Option β) : rW s k = k s := by unfold rW; rw [aJp, aFv]
end
def cY {β : Type} (P : Program) (D : (bA m)) (H : eX) (loop : ((St m) → Option (Out m)) → ((St m) → Option (St m)) → (St m) → Option (Out m)) : Nat → Code → (St m) → ((Out m) → Option β) → Option β
  | _, .skip, s, k => k (.norm s)
  | _, .region id ops draw, s, k => aA (!draw || vJ (H.mv id) (H.pure id) (H.take id) ops) (rW (St.freeze H.nt s (H.fz (4194304 + id))) fun s => vS P D H.nt (H.mv id) (H.pure id) (H.take id) (aP3 H id) ops ops.toList 0 s fun s' => rW (St.freeze H.nt (s'.tidy (H.after id) (H.afterB id)) (H.fz id)) fun s' => k (.norm s'))
  | blk, .seq a b, s, k => cY P D H loop blk a s (aIq (fun s' => cY P D H loop blk b s' k) k)
  | blk, .cond c a b, s, k => lL (s.eval c) fun t => aC t (rW (s.dropC H.condA c) fun s => cY P D H loop blk a s k) (rW (s.dropC H.condB c) fun s => cY P D H loop blk b s k)
  | _, .block id a, s, k => cY P D H loop id a s (pV id k)
  | blk, .loop a, s, k => (loop (fun s => cY P D H loop blk a s some) (fun s => s.again (H.clear blk) (H.drop blk)) s).bind k
  | _, .exit id, s, k => k (.exit id s)
  | _, .ret, s, k => k (.ret s)
  | _, _, _, _ => none
def aJ7 (P : Program) (fn : Func) (n : Nat) (s : (St m)) : Option ((SV m) × List (List (SV m))) := match fn.results.toList with
  | [.tmp t] => (match s.tmps.getD t .any with
    | .bsl b z lo k => (match decide (b < fn.ntmps) with
      | true => aA (lo == 0 && decide (0 < z)) ((s.box b).bind fun cs => aA (decide (k * z ≤ cs.length)) ((bX (cs.take (k * z))).bind fun l =>
        (oX s.boxes ((List.range n).map (fn.ntmps + ·))).bind fun cs' => aA (cs'.all (·.all SV.flat)) (some (.leaf (.sl (Fl.new m) (hU z k l)), cs'))))
      | false => rE P fn n s)
    | _ => rE P fn n s)
  | _ => rE P fn n s
def aJx (P : Program) (fn : Func) (n : Nat) : (Out m) → Option ((SV m) × List (List (SV m)))
  | .norm s => aJ7 P fn n s
  | .ret s => aJ7 P fn n s
  | .exit _ _ => none
theorem aIb {P : Program} {fn : Func} {n : Nat} {s : St m} {r : (SV m) × List (List (SV m))} (h : aJ7 P fn n s = some r) : rE P fn n s = some r := by
  unfold aJ7 at h
  split at h
  · rename_i t hr
    split at h
    · rename_i b z lo k hv
      split at h
      · rename_i hb
        have hb := of_decide_eq_true hb
        obtain ⟨h1, h'⟩ := aV h
        replace h := h'
        clear h'
        simp only [Bool.and_eq_true, beq_iff_eq, decide_eq_true_eq] at h1
        obtain ⟨rfl, hz⟩ := h1
        rw [Option.bind_eq_some_iff] at h
        obtain ⟨cs, hcs, h⟩ := h
        obtain ⟨h2, h⟩ := aV h
        have h2 := of_decide_eq_true h2
        rw [Option.bind_eq_some_iff] at h
        obtain ⟨l, hl, h⟩ := h
        rw [Option.bind_eq_some_iff] at h
        obtain ⟨cs', hcs', h⟩ := h
        obtain ⟨h3, h⟩ := aV h
        have hbox : s.box b = some cs := hcs
        have hres : aEh P fn s = some (.leaf (.sl (Fl.new m) (hU z k l))) := by
          unfold aEh
          rw [hr]
          simp only [aDv, hv, aKA]
          rw [if_pos ⟨hb, trivial⟩, hbox, Option.bind_some, if_pos ⟨h2, hz⟩, hl]
          rfl
        unfold rE
        rw [hres, Option.bind_some]
        rw [show SV.homeOk fn.ntmps n (SV.leaf (aB.sl (Fl.new m) (hU z k l))) = true from rfl]
        simp only [aA]
        rw [hcs', Option.bind_some, h3]
        exact h
      · exact h
    · exact h
  · exact h
theorem aI3 {P : Program} {fn : Func} {n : Nat} {o : Out m} {r : (SV m) × List (List (SV m))} (h : aJx P fn n o = some r) : aNT P fn n o = some r := by
  cases o with
  | norm s => exact aIb h
  | ret s => exact aIb h
  | exit _ _ => simp [aJx] at h
def bB (P : Program) (D : (bA m)) (H : FuncId → eX) (loop : ((St m) → Option (Out m)) → ((St m) → Option (St m)) → (St m) → Option (Out m)) : (bA m) := fun f args boxes =>
  match P.funcs[f]? with
  | some fn => match fn.body with
    | some c => cY P D ((H f).fit fn.ntmps) loop 0 c (St.freeze fn.ntmps (xA fn args boxes) ((H f).fz 1048576)) (aJx P fn boxes.length)
    | none => none
  | none => none
section
variable {P : Program} {D : (bA m)} {β : Type}
theorem rJ {nt : Nat} {mv pu ta : Bool} {o : Oper} {s : (St m)} {k1 k2 : (St m) → Option β} {y : β} (hk : ∀ s, k2 s = some y → k1 s = some y) (h : eK P D nt mv pu ta o s k2 = some y) : eK P D nt mv pu ta o s k1 = some y := by
  rw [aCc, Option.bind_eq_some_iff] at h ⊢
  obtain ⟨e, he, h⟩ := h
  exact ⟨e, he, hk _ h⟩
theorem aMN {own : Bool} {rk : Nat} {dst : Option Tmp} {t : TypeId} {v : (SV m)} {k : (SV m) → Option β} {y : β} (h : aMf P own rk dst t v k = some y) : k v = some y := by
  unfold aMf at h
  split at h
  · split at h
    · exact h
    · exact aNZ h
  · rw [Option.bind_eq_some_iff] at h
    obtain ⟨e, _, h⟩ := h
    unfold aIC at h
    split at h
    · split at h
      · rename_i he; subst he; exact h
      · simp at h
    · simp at h
  · unfold aB3 at h
    split at h
    · split at h
      · rename_i hc; rw [hc.1, hc.2]; exact h
      · simp at h
    · simp at h
theorem aM0 {s : (St m)} {own pu : Bool} {rk : Nat} {f : FuncId} {args : List (SV m)} {dst : Option Tmp} {t : TypeId} {k1 k2 : (St m) → Option β} {y : β} (hk : ∀ s, k2 s = some y → k1 s = some y) (h : aFP P D s own pu rk f args dst t k2 = some y) : aMM D s pu f args dst k1 = some y := by
  unfold aFP at h
  obtain ⟨h1, h⟩ := aV h
  unfold aMM
  rw [h1]
  simp only [aA]
  split at h
  · obtain ⟨h2, h⟩ := aV h
    rw [if_pos rfl, if_pos (by simpa using h2)]
    rw [Option.bind_eq_some_iff] at h ⊢
    obtain ⟨r, hr, h⟩ := h
    exact ⟨r, hr, hk _ (aMN h)⟩
  · rw [if_neg (by simp)]
    rw [Option.bind_eq_some_iff] at h ⊢
    obtain ⟨cs, hcs, h⟩ := h
    obtain ⟨h2, h⟩ := aV h
    refine ⟨cs, hcs, ?_⟩
    rw [h2]
    simp only
    rw [Option.bind_eq_some_iff] at h ⊢
    obtain ⟨r, hr, h⟩ := h
    refine ⟨r, hr, hk _ ?_⟩
    have h3 := aJq _ cs r.2 _ y h
    exact aMN h3
theorem gk {x : Option (Bool × (SV m))} {x' : Option (SV m)} {k1 k2 : (SV m) → Option β} {y : β} (hx : ∀ p, x = some p → p.1 = true → x' = some p.2) (hk : ∀ v, k2 v = some y → k1 v = some y) (h : x.bind (fun p => aA p.1 (k2 p.2)) = some y) : x'.bind k1 = some y := by
  rw [Option.bind_eq_some_iff] at h
  obtain ⟨p, hp, h⟩ := h
  obtain ⟨h1, h2⟩ := aV h
  rw [hx p hp h1, Option.bind_some]
  exact hk _ h2
theorem aGo {s : (St m)} {x : Operand} {b : Bool} (h : s.eval x = .leaf (.bool b)) : refine s x b = s := by
  cases x with
  | tmp t =>
    simp only [refine, St.put]
    have h' : s.tmps.getD t .any = .leaf (.bool b) := h
    have hl : s.tmps[t]? = some (.leaf (.bool b)) := by
      rw [List.getD_eq_getElem?_getD] at h'
      cases hx : s.tmps[t]? with
      | none => rw [hx] at h'; simp at h'
      | some v => rw [hx] at h'; simpa using h'
    have : s.tmps.set t (.leaf (.bool b)) = s.tmps := by
      apply List.ext_getElem?
      intro i
      by_cases hi : t = i
      · subst hi; rw [List.getElem?_set_self (List.getElem?_eq_some_iff.1 hl).1, hl]
      · rw [List.getElem?_set_ne hi]
    rw [this]
  | _ => rfl
theorem aNr {s : (St m)} {t : Tmp} {want : Bool} {x y : (St m) → Option β} : aJH s t want x y = mK (s.tmps.getD t .any) want (x s) (y s) := by
  unfold aJH mK
  have hr : ∀ b, s.tmps.getD t .any = .leaf (.bool b) → refine s (.tmp t) b = s := fun b hb => aGo (x := .tmp t) hb
  generalize s.tmps.getD t .any = v at hr
  cases v with
  | leaf l =>
    cases l with
    | bool b =>
      simp only [lE]
      by_cases hw : b = want
      · subst hw; simp [hr b rfl]
      · have : b = !want := by cases b <;> cases want <;> simp_all
        subst this
        simp [hr _ rfl]
    | _ => rfl
  | _ => rfl
theorem aJo {nt : Nat} {mv pu ta : Bool} {rk : Nat} {o : Oper} {s : (St m)} {k1 k2 : (St m) → Option β} {y : β} (hk : ∀ s, k2 s = some y → k1 s = some y) (h : eI P D nt mv pu ta rk o s k2 = some y) : eK P D nt mv pu ta o s k1 = some y := by
  cases hop : o.op
  case load t x =>
    simp only [eI, hop] at h
    split at h
    · rename_i c e p hx
      obtain ⟨v, hv, h⟩ := aLx h
      simp only [eK, hop, hx, hv, Option.bind_some]
      exact hk _ h
    · rename_i b p hx
      split at h
      · rename_i ha
        rw [Option.bind_eq_some_iff] at h
        obtain ⟨cs, hcs, h⟩ := h
        obtain ⟨c, hc, h⟩ := aON h
        have h := aN7 h
        simp only [eK, hop, hx, hcs, Option.bind_some]
        rw [if_neg (by simp [ha]), hc]
        exact hk _ h
      · rename_i ha
        rw [Option.bind_eq_some_iff] at h
        obtain ⟨cs, hcs, h⟩ := h
        rw [Option.bind_eq_some_iff] at h
        obtain ⟨n, hn, h⟩ := h
        obtain ⟨hle, h⟩ := aV h
        have hle := of_decide_eq_true hle
        unfold aPk at h
        rw [Option.bind_eq_some_iff] at h
        obtain ⟨e, he, h⟩ := h
        obtain ⟨v, hv, h⟩ := aLx h
        have hel : e.length = n := by rw [uG he, List.length_take, List.length_drop]; omega
        have hve : v = .agg e := by
          unfold xN at hv
          rw [if_pos ha, hn, Option.bind_some, if_pos (by omega), List.drop_zero, ← hel, List.take_length] at hv
          exact (Option.some.inj hv).symm
        subst hve
        simp only [eK, hop, hx, hcs, Option.bind_some]
        rw [if_pos ha, hn, Option.bind_some, if_pos hle, he]
        exact hk _ h
      · exact rJ hk h
    · exact rJ hk h
  case store t x y =>
    simp only [eI, hop] at h
    split at h
    · rename_i b p hx
      rw [Option.bind_eq_some_iff] at h
      obtain ⟨cs, hcs, h⟩ := h
      rw [Option.bind_eq_some_iff] at h
      obtain ⟨n, hn, h⟩ := h
      obtain ⟨h1, h⟩ := aV h
      obtain ⟨h2, h⟩ := aV h
      simp only [Bool.and_eq_true, beq_iff_eq, decide_eq_true_eq] at h2
      simp only [eK, hop, hx, hcs, hn, Option.bind_some, h1, aA]
      rw [if_pos h2]
      have := hk _ h
      rw [hM, ← h2.1] at this
      exact this
    · exact rJ hk h
  case makeSlice t l c =>
    simp only [eI, hop] at h
    simp only [eK, hop]
    split at h
    · rename_i d hd
      rw [hd]
      simp only
      split at h
      · rename_i hb
        rw [hb]
        simp only
        obtain ⟨h1, h⟩ := aV h
        rw [h1]
        simp only [aA]
        rw [Option.bind_eq_some_iff] at h ⊢
        obtain ⟨p, hp, h⟩ := h
        obtain ⟨h2, h⟩ := aV h
        refine ⟨p.2, aO3 hp h2, ?_⟩
        rw [hd] at h
        exact hk _ h
      · simp at h
    · simp at h
  case pick c x z =>
    simp only [eI, hop] at h
    simp only [eK, hop]
    obtain ⟨b, hb, h⟩ := pS h
    rw [hb]
    simp only [lL]
    cases b
    · simp only [aC, aGo hb] at h ⊢; exact hk _ h
    · simp only [aC, aGo hb] at h ⊢; exact hk _ h
  case binOp op t x z u =>
    simp only [eI, hop] at h
    simp only [eK, hop]
    exact gk (fun p hp h1 => aPn hp h1) (fun v => hk _) h
  case convert src dst x =>
    simp only [eI, hop] at h
    simp only [eK, hop]
    exact gk (fun p hp h1 => aO0 hp h1) (fun v => hk _) h
  case slice t x lo hi mx =>
    cases mx with
    | some m => simp only [eI, hop] at h; exact rJ hk h
    | none =>
      simp only [eI, hop] at h
      simp only [eK, hop]
      rw [Option.bind_eq_some_iff] at h
      obtain ⟨l, hl, h⟩ := h
      rw [Option.bind_eq_some_iff] at h
      obtain ⟨r, hr, h⟩ := h
      rw [Option.bind_eq_some_iff] at h
      obtain ⟨p, hp, h⟩ := h
      obtain ⟨h1, h2⟩ := aV h
      simp only [Bool.and_eq_true] at h1
      rw [aNU hl h1.1.1, Option.bind_some, aNU hr h1.1.2, Option.bind_some, aN4 hp h1.2, Option.bind_some]
      exact hk _ h2
  case indexAddr t x i =>
    simp only [eI, hop] at h
    simp only [eK, hop]
    exact gk (fun p hp h1 => aJB hp h1) (fun v => hk _) h
  case index t x i =>
    simp only [eI, hop] at h
    simp only [eK, hop]
    exact gk (fun p hp h1 => aNY hp h1) (fun v => hk _) h
  case call c =>
    cases hc : c.callee with
    | invoke r m => simp only [eI, hop, hc] at h; exact rJ hk h
    | value g =>
      simp only [eI, hop, hc] at h
      simp only [eK, hop, hc]
      split at h
      · rename_i f caps hg
        obtain ⟨h1, h⟩ := aV h
        rw [hg]
        simp only [h1, aA]
        exact aM0 hk h
      · simp at h
    | builtin b =>
      cases b
      case append =>
        simp only [eI, hop, hc] at h
        simp only [eK, hop, hc]
        split at h
        · rename_i x z hargs
          rw [hargs]
          simp only
          exact gk (fun p hp h1 => aNA hp h1) (fun v => hk _) h
        · simp at h
      case clear =>
        simp only [eI, hop, hc] at h
        simp only [eK, hop, hc]
        split at h
        · rename_i x hargs
          rw [hargs]
          simp only
          split at h
          · rename_i b z lo n hx
            rw [hx]
            simp only
            rw [Option.bind_eq_some_iff] at h
            obtain ⟨cs, hcs, h⟩ := h
            rw [Option.bind_eq_some_iff] at h
            obtain ⟨t, ht, h⟩ := h
            rw [Option.bind_eq_some_iff] at h
            obtain ⟨e, he, h⟩ := h
            rw [Option.bind_eq_some_iff] at h
            obtain ⟨ze, hze, h⟩ := h
            obtain ⟨h1, h⟩ := aV h
            obtain ⟨h2, h⟩ := aV h
            simp only [Bool.and_eq_true, beq_iff_eq, decide_eq_true_eq] at h1 h2
            have hcl : aF8 P c.argTypes cs z lo n = some (hM cs (lo * z) ((List.replicate n ze).flatten.map .leaf)) := by
              have hl : ((List.replicate n ze).flatten.map (SV.leaf (m := m))).length = n * z := by simp [h1.1]
              have ha : (lo + n) * z = lo * z + n * z := Nat.add_mul _ _ _
              simp only [aF8, ht, he, hze, Option.bind_some]
              rw [if_pos ⟨h1, h2⟩, hM, hl, ha]
            rw [hcs, Option.bind_some, hcl, Option.bind_some]
            exact hk _ h
          · simp at h
        · simp at h
      all_goals (simp only [eI, hop, hc] at h; exact rJ hk h)
  all_goals (simp only [eI, hop] at h; exact rJ hk h)
theorem aNh {nt : Nat} {mv pu ta : Bool} {rk : Nat} {ops : Array Oper} {o : Oper} {s : (St m)} {k1 k2 : (St m) → Option β} {y : β} (hk : ∀ s, k2 s = some y → k1 s = some y) (h : aFQ P D nt mv pu ta rk ops o s k2 = some y) : aLp P D nt mv pu ta ops o s k1 = some y := by
  unfold aFQ at h
  unfold aLp
  cases hg : o.guard with
  | none => rw [hg] at h; exact aJo hk h
  | some g =>
    obtain ⟨j, want⟩ := g
    rw [hg] at h
    simp only at h ⊢
    cases hj : (ops[j]?).bind (·.dst) with
    | none => rw [hj] at h; simp at h
    | some t =>
      rw [hj] at h
      simp only at h ⊢
      rw [aNr] at h
      unfold mK at h ⊢
      split at h
      · rename_i b hb
        rw [lE] at h ⊢
        split at h
        · rename_i hbw
          rw [if_pos hbw]
          exact aJo hk h
        · rename_i hbw
          rw [if_neg hbw]
          exact hk _ h
      · exact hk _ h
      · simp at h
theorem aIw {nt : Nat} {mv pu ta : Nat → Bool} {rk : Nat → Nat} {ops : Array Oper} {y : β} : ∀ (l : List Oper) (i : Nat) (s : (St m)) (k1 k2 : (St m) → Option β), (∀ s, k2 s = some y → k1 s = some y) → vS P D nt mv pu ta rk ops l i s k2 = some y → iV P D nt mv pu ta ops l i s k1 = some y
  | [], i, s, k1, k2, hk, h => hk _ h
  | o :: l, i, s, k1, k2, hk, h => by
    simp only [vS] at h
    simp only [iV]
    exact aNh (fun s' h' => aIw l (i + 1) s' k1 k2 hk h') h
def Up (loop : ((St m) → Option (Out m)) → ((St m) → Option (St m)) → (St m) → Option (Out m)) : Prop := ∀ body body' again s o, (∀ s o, body s = some o → body' s = some o) → loop body again s = some o → loop body' again s = some o
theorem aMT : Up (m := m) bQ := by
  intro body body' again s o hb h
  obtain ⟨n, hn⟩ := yA.1 h
  exact yA.2 ⟨n, pR hb n n (Nat.le_refl _) s o hn⟩
theorem aMU {f1 f2 : (St m) → Option β} {k1 k2 : (Out m) → Option β} {y : β} (hf : ∀ s, f2 s = some y → f1 s = some y) (hk : ∀ o, k2 o = some y → k1 o = some y) : ∀ o, aIq f2 k2 o = some y → aIq f1 k1 o = some y := by
  intro o h
  cases o with
  | norm s => exact hf s h
  | exit id s => exact hk _ h
  | ret s => exact hk _ h
theorem aLs {id : Nat} {k1 k2 : (Out m) → Option β} {y : β} (hk : ∀ o, k2 o = some y → k1 o = some y) : ∀ o, pV id k2 o = some y → pV id k1 o = some y := by
  intro o h
  cases o with
  | norm s => exact hk _ h
  | exit id' s =>
    simp only [pV] at h ⊢
    split at h
    · rename_i he; rw [if_pos he]; exact hk _ h
    · rename_i he; rw [if_neg he]; exact hk _ h
  | ret s => exact hk _ h
theorem aJf {H : eX} {loop : ((St m) → Option (Out m)) → ((St m) → Option (St m)) → (St m) → Option (Out m)} (hL : Up loop) : ∀ (c : Code) (blk : Nat) {β : Type} (s : (St m)) (k1 k2 : (Out m) → Option β) (y : β), (∀ o, k2 o = some y → k1 o = some y) → cY P D H loop blk c s k2 = some y → dS P D H loop blk c s k1 = some y := by
  intro c
  induction c with
  | skip => intro blk β s k1 k2 y hk h; exact hk _ h
  | region id ops draw =>
    intro blk β s k1 k2 y hk h
    simp only [cY] at h
    obtain ⟨hg, h⟩ := aV h
    rw [pF] at h
    simp only [dS, hg, aA]
    exact aIw _ _ _ _ _ (fun s' h' => by rw [pF] at h'; exact hk _ h') h
  | seq a b iha ihb =>
    intro blk β s k1 k2 y hk h
    simp only [cY] at h
    simp only [dS]
    exact iha blk s _ _ y (aMU (fun s' => ihb blk s' k1 k2 y hk) hk) h
  | cond x a b iha ihb =>
    intro blk β s k1 k2 y hk h
    simp only [cY] at h
    simp only [dS]
    obtain ⟨t, ht, h⟩ := pS h
    rw [ht]
    simp only [lL]
    simp only [pF] at h
    cases t
    · exact ihb blk _ k1 k2 y hk h
    · exact iha blk _ k1 k2 y hk h
  | block id a ih =>
    intro blk β s k1 k2 y hk h
    simp only [cY] at h
    simp only [dS]
    exact ih id s _ _ y (aLs hk) h
  | loop a ih =>
    intro blk β s k1 k2 y hk h
    simp only [cY] at h
    simp only [dS]
    rw [Option.bind_eq_some_iff] at h ⊢
    obtain ⟨o, ho, h⟩ := h
    exact ⟨o, hL _ _ _ _ _ (fun s' o' h' => ih blk s' some some o' (fun _ h => h) h') ho, hk _ h⟩
  | exit id => intro blk β s k1 k2 y hk h; exact hk _ h
  | ret => intro blk β s k1 k2 y hk h; exact hk _ h
  | _ => intro blk β s k1 k2 y hk h; simp [cY] at h
theorem aOr {H : FuncId → eX} {loop : ((St m) → Option (Out m)) → ((St m) → Option (St m)) → (St m) → Option (Out m)} (hL : Up loop) {f : FuncId} {a : List (SV m)} {b : List (List (SV m))} {r : (SV m) × List (List (SV m))} (h : bB P D H loop f a b = some r) : aKi P D H loop f a b = some r := by
  unfold bB at h
  unfold aKi
  cases hfn : P.funcs[f]? with
  | none => rw [hfn] at h; simp at h
  | some fn =>
    rw [hfn] at h
    simp only at h ⊢
    cases hc : fn.body with
    | none => rw [hc] at h; simp at h
    | some c =>
      rw [hc] at h
      simp only at h ⊢
      exact aJf hL c 0 _ _ _ r (fun _ h => aI3 h) h
theorem aLk {T : (aGT m)} {H : FuncId → eX} {f : FuncId} {a : List (SV m)} {b : List (List (SV m))} {r : (SV m) × List (List (SV m))} (hT : T f = none) (h : bB P (den P T H) H bQ f a b = some r) : den P T H f a b = some r :=
  aOP hT (aOr aMT h)
end
end Go.Vs
end
section
namespace Go.Vs
variable {m : Bool}
def sub : Code → List Nat → Code
  | c, [] => c
  | .seq a b, n :: r => if n = 0 then sub a r else sub b r
  | .cond _ a b, n :: r => if n = 0 then sub a r else sub b r
  | .block _ a, _ :: r => sub a r
  | .loop a, _ :: r => sub a r
  | c, _ => c
def tN (P : Program) (f : FuncId) : Code := match P.funcs[f]? with | some fn => fn.body.getD .skip | none => .skip
def sN (P : Program) (f : FuncId) : Func := (P.funcs[f]?).getD default
structure Tab where
  mv : List (List Nat)
  boxed : List (List Nat)
  take : List (List Nat)
  clear : List (Nat × List Nat)
  drop : List (Nat × List Nat)
  after : List (List Nat)
  afterB : List (List Nat)
  condA : List (Nat × List Nat × List Nat)
  condB : List (Nat × List Nat × List Nat)
  fz : List (Nat × List Nat)
def Tab.hints (t : Tab) : eX :=
  { nt := 0
    mv := fun r i => (t.mv.getD r []).contains i
    pure := fun r i => !(t.boxed.getD r []).contains i
    take := fun r i => (t.take.getD r []).contains i
    clear := fun b => ((t.clear.find? fun p => p.1 == b).map (·.2)).getD []
    drop := fun b => ((t.drop.find? fun p => p.1 == b).map (·.2)).getD []
    after := fun r => t.after.getD r []
    afterB := fun r => t.afterB.getD r []
    condA := fun b => ((t.condA.find? fun p => p.1 == b).map (·.2)).getD ([], [])
    condB := fun b => ((t.condB.find? fun p => p.1 == b).map (·.2)).getD ([], [])
    fz := fun b => ((t.fz.find? fun p => p.1 == b).map (·.2)).getD [] }
def aP1 : Tab := ⟨[], [], [], [], [], [], [], [], [], []⟩
end Go.Vs
end
section
namespace Go.Vs
variable {m : Bool}
section
variable {α β : Type}
theorem dZ (b : Bool) (x : Option α) (f : α → Option β) : (aA b x).bind f = aA b (x.bind f) := by cases b <;> rfl
theorem aBn (b : Bool) (x y : Option α) (f : α → Option β) : (aC b x y).bind f = aC b (x.bind f) (y.bind f) := by cases b <;> rfl
theorem aGs (v : (SV m)) (k : Bool → Option α) (f : α → Option β) : (lL v k).bind f = lL v fun b => (k b).bind f := by unfold lL; split <;> rfl
theorem aIT (k0 : IntKind) (l : (aB m)) (k : Int → Option α) (f : α → Option β) : (cL k0 l k).bind f = cL k0 l fun n => (k n).bind f := by
  unfold cL; split
  · split <;> rfl
  · rfl
theorem aHx (l : (aB m)) (k : Bool → Option α) (f : α → Option β) : (cU l k).bind f = cU l fun n => (k n).bind f := by unfold cU; split <;> rfl
theorem aJv (l : (aB m)) (k : ByteArray → Option α) (f : α → Option β) : (bM l k).bind f = bM l fun n => (k n).bind f := by unfold bM; split <;> rfl
theorem aN9 (l : (aB m)) (k : Fl m → List (List (aB m)) → Option α) (f : α → Option β) : (slK l k).bind f = slK l fun c n => (k c n).bind f := by unfold slK; split <;> rfl
theorem aDt (P : Program) (t : TypeId) (l : (aB m)) (k : (aB m) → Option α) (f : α → Option β) : (aGt P t l k).bind f = aGt P t l fun n => (k n).bind f := by
  unfold aGt
  split
  · exact aIT _ _ _ _
  · exact aHx _ _ _
  · exact aJv _ _ _
  · exact aN9 _ _ _
  · rfl
theorem aK7 (e : List (aB m)) (p : Nat) (k : (aB m) → Option α) (f : α → Option β) : (atK e p k).bind f = atK e p fun n => (k n).bind f := by unfold atK; split <;> rfl
theorem wQ (P : Program) : ∀ (ts : List TypeId) (e : List (aB m)) (p : Nat) (k : List (aB m) → Option α) (f : α → Option β), (qR P ts e p k).bind f = qR P ts e p fun n => (k n).bind f
  | [], e, p, k, f => rfl
  | t :: ts, e, p, k, f => by
    simp only [qR]
    rw [aK7]
    congr 1
    funext l
    rw [aDt]
    congr 1
    funext l'
    exact wQ P ts e (p + 1) _ f
theorem aHz (P : Program) (t : TypeId) (e : List (aB m)) (p : Nat) (k : (SV m) → Option α) (f : α → Option β) : (aHT P t e p k).bind f = aHT P t e p fun n => (k n).bind f := by
  unfold aHT
  split
  · rw [Option.bind_assoc]
    congr 1
    funext ts
    rw [Option.bind_assoc]
    congr 1
    funext n
    split
    · exact wQ P ts e p _ f
    · rfl
  · rw [aK7]
    congr 1
    funext l
    exact aDt P t l _ f
theorem uH (v : (SV m)) (k : (aB m) → Option α) (f : α → Option β) : (aL v k).bind f = aL v fun n => (k n).bind f := by unfold aL; split <;> rfl
theorem aHw (v : (SV m)) (k : Fl m → List (List (aB m)) → Option α) (f : α → Option β) : (iR v k).bind f = iR v fun c n => (k c n).bind f := by unfold iR; split <;> rfl
theorem aGu (e : TypeId) (v : (SV m)) (k : List (List (aB m)) → Option α) (f : α → Option β) : (kX e v k).bind f = kX e v fun n => (k n).bind f := by
  unfold kX; split
  · split <;> rfl
  · rfl
theorem aKI (v : (SV m)) (k : List (aB m) → Option α) (f : α → Option β) : (eA v k).bind f = eA v fun n => (k n).bind f := by unfold eA; split <;> rfl
theorem aLm (v : (SV m)) (k : Option α) (f : α → Option β) : (aDN v k).bind f = aDN v (k.bind f) := by unfold aDN; split <;> rfl
theorem aLr (v : (SV m)) (k : List (SV m) → Option α) (f : α → Option β) : (lX v k).bind f = lX v fun n => (k n).bind f := by unfold lX; split <;> rfl
theorem aHy (l : List (SV m)) (k : (SV m) → List (SV m) → Option α) (f : α → Option β) : (jL l k).bind f = jL l fun v r => (k v r).bind f := by unfold jL; split <;> rfl
theorem aHD (l : List (SV m)) (k : Option α) (f : α → Option β) : (kN l k).bind f = kN l (k.bind f) := by unfold kN; split <;> rfl
theorem aBY (P : Program) (own : Bool) (t : TypeId) (v : (SV m)) (k : (SV m) → Option α) (f : α → Option β) : (aBV P own t v k).bind f = aBV P own t v fun n => (k n).bind f := by
  unfold aBV
  split
  · split
    · exact aGu _ _ _ _
    · exact aHw _ _ _
  · rw [aKI]
    congr 1
    funext cs
    rw [Option.bind_assoc]
    congr 1
    funext ts
    rw [dZ]
    congr 1
    exact wQ P ts cs 0 _ f
  · exact aLm _ _ _
  · rw [uH]
    congr 1
    funext l
    exact aDt P t l _ f
  · rfl
theorem aGF (P : Program) : ∀ (ts : List TypeId) (l : List (SV m)) (k : List (SV m) → Option α) (f : α → Option β), (aA2 P ts l k).bind f = aA2 P ts l fun n => (k n).bind f
  | [], l, k, f => aHD l _ f
  | t :: ts, l, k, f => by
    simp only [aA2]
    rw [aHy]
    congr 1
    funext v r
    rw [aBY]
    congr 1
    funext v'
    exact aGF P ts r _ f
theorem aMq (P : Program) (own : Bool) (t : TypeId) (v : (SV m)) (k : (SV m) → Option α) (f : α → Option β) : (aI7 P own t v k).bind f = aI7 P own t v fun n => (k n).bind f := by
  unfold aI7
  split
  · rw [aLr]
    congr 1
    funext vs
    exact aGF P _ vs _ f
  · exact aBY P own t v k f
theorem aMh (c d : (SV m)) (k : (SV m) → Option α) (f : α → Option β) : (aJt c d k).bind f = aJt c d fun n => (k n).bind f := by
  unfold aJt
  split
  · rw [uH]; congr 1; funext l; exact aIT _ _ _ _
  · rw [uH]; congr 1; funext l; exact aHx _ _ _
  · rw [uH]; congr 1; funext l; exact aJv _ _ _
  · exact aHw _ _ _
  · exact aGu _ _ _ _
  · rfl
theorem aGr : ∀ (cs l : List (SV m)) (k : List (SV m) → Option α) (f : α → Option β), (aBs cs l k).bind f = aBs cs l fun n => (k n).bind f
  | [], l, k, f => aHD l _ f
  | c :: cs, l, k, f => by
    simp only [aBs]
    rw [aHy]
    congr 1
    funext v r
    rw [aMh]
    congr 1
    funext v'
    exact aGr cs r _ f
theorem aNg (w : Bool) (c d : List (SV m)) (k : List (SV m) → Option α) (f : α → Option β) : (aOW w c d k).bind f = aOW w c d fun n => (k n).bind f := by
  cases w
  · exact aGr c d k f
  · rfl
theorem aGD : ∀ (ws : List Bool) (cs l : List (List (SV m))) (k : List (List (SV m)) → Option α) (f : α → Option β), (uR ws cs l k).bind f = uR ws cs l fun n => (k n).bind f
  | [], _, l, k, f => by simp only [uR]; unfold kQ; split <;> rfl
  | w :: ws, [], l, k, f => by simp only [uR]; unfold kQ; split <;> rfl
  | w :: ws, c :: cs, l, k, f => by
    simp only [uR]
    unfold qW
    split
    · rw [aNg]
      congr 1
      funext v'
      exact aGD ws cs _ _ f
    · rfl
theorem aM4 (cs : List (SV m)) (p : Nat) (k : (SV m) → Option α) (f : α → Option β) : (aDl cs p k).bind f = aDl cs p fun n => (k n).bind f := by unfold aDl; split <;> rfl
theorem aL7 (P : Program) (t : TypeId) (c : (SV m)) (k : (SV m) → Option α) (f : α → Option β) : (aJn P t c k).bind f = aJn P t c fun n => (k n).bind f := by
  unfold aJn; split
  · exact aBY P false t _ k f
  · rfl
theorem aK2 (e : TypeId) (v : (SV m)) (k : List (List (aB m)) → Option α) (f : α → Option β) : (aIC e v k).bind f = aIC e v fun n => (k n).bind f := by
  unfold aIC; split
  · split <;> rfl
  · rfl
theorem aKP (i z : Nat) (v : (SV m)) (k : Nat → Nat → Option α) (f : α → Option β) : (aB3 i z v k).bind f = aB3 i z v fun a n => (k a n).bind f := by
  unfold aB3; split
  · split <;> rfl
  · rfl
theorem aJi (P : Program) (own : Bool) (rk : Nat) (dst : Option Tmp) (t : TypeId) (v : (SV m)) (k : (SV m) → Option α) (f : α → Option β) : (aMf P own rk dst t v k).bind f = aMf P own rk dst t v fun n => (k n).bind f := by
  unfold aMf; split
  · split
    · rfl
    · exact aMq P own t v k f
  · rw [Option.bind_assoc]; congr 1; funext e; exact aK2 _ _ _ _
  · exact aKP _ _ _ _ _
variable {P : Program} {D : (bA m)}
theorem aLz (s : (St m)) (own pu : Bool) (rk : Nat) (g : FuncId) (args : List (SV m)) (dst : Option Tmp) (t : TypeId) (k : (St m) → Option α) (f : α → Option β) : (aFP P D s own pu rk g args dst t k).bind f = aFP P D s own pu rk g args dst t fun n => (k n).bind f := by
  unfold aFP
  rw [dZ]
  congr 1
  split
  · rw [dZ, Option.bind_assoc]
    congr 1
    congr 1
    funext r
    exact aJi _ _ _ _ _ _ _ _
  · rw [Option.bind_assoc]
    congr 1
    funext cs
    rw [dZ, Option.bind_assoc]
    congr 1
    congr 1
    funext r
    rw [aGD]
    congr 1
    funext bs
    exact aJi _ _ _ _ _ _ _ _
theorem rH {nt : Nat} {mv pu ta : Bool} {o : Oper} {s : (St m)} (k : (St m) → Option α) (f : α → Option β) : (eK P D nt mv pu ta o s k).bind f = eK P D nt mv pu ta o s fun n => (k n).bind f := by
  rw [aCc, aCc, Option.bind_assoc]
theorem aHZ (x : Option (Bool × (SV m))) (k : (SV m) → Option α) (f : α → Option β) : (x.bind fun p => aA p.1 (k p.2)).bind f = x.bind fun p => aA p.1 ((k p.2).bind f) := by
  rw [Option.bind_assoc]; congr 1; funext p; exact dZ _ _ _
theorem aIr {nt : Nat} {mv pu ta : Bool} {rk : Nat} {o : Oper} {s : (St m)} (k : (St m) → Option α) (f : α → Option β) : (eI P D nt mv pu ta rk o s k).bind f = eI P D nt mv pu ta rk o s fun n => (k n).bind f := by
  cases hop : o.op
  case pick c x z =>
    simp only [eI, hop]
    rw [aGs]
    congr 1
    funext b
    rw [aBn]
  case load t x =>
    simp only [eI, hop]
    split
    · exact aHz P t _ _ _ f
    · split
      · rw [Option.bind_assoc]
        congr 1
        funext cs
        rw [aM4]
        congr 1
        funext c
        exact aL7 P t c _ f
      · rw [Option.bind_assoc]
        congr 1
        funext cs
        rw [Option.bind_assoc]
        congr 1
        funext n
        rw [dZ]
        unfold aPk
        rw [Option.bind_assoc]
        congr 2
        funext e
        exact aHz P t e 0 _ f
      · exact rH k f
    · exact rH k f
  case store t x y =>
    simp only [eI, hop]
    split
    · rw [Option.bind_assoc]
      congr 1
      funext cs
      rw [Option.bind_assoc]
      congr 1
      funext n
      rw [dZ, dZ]
    · exact rH k f
  case makeSlice t l c =>
    simp only [eI, hop]
    split
    · split
      · rw [dZ, Option.bind_assoc]
        congr 1
        congr 1
        funext p
        exact dZ _ _ _
      · rfl
    · rfl
  case binOp op t x z u => simp only [eI, hop]; exact aHZ _ (fun v => k (s.put o.dst v)) f
  case convert src dst x => simp only [eI, hop]; exact aHZ _ (fun v => k (s.put o.dst v)) f
  case slice t x lo hi mx =>
    cases mx with
    | some m => simp only [eI, hop]; exact rH k f
    | none =>
      simp only [eI, hop]
      rw [Option.bind_assoc]; congr 1; funext l
      rw [Option.bind_assoc]; congr 1; funext h
      rw [Option.bind_assoc]; congr 1; funext p
      exact dZ _ _ _
  case indexAddr t x i => simp only [eI, hop]; exact aHZ _ (fun v => k (s.put o.dst v)) f
  case index t x i => simp only [eI, hop]; exact aHZ _ (fun v => k (s.put o.dst v)) f
  case call c =>
    cases hc : c.callee with
    | invoke r m => simp only [eI, hop, hc]; exact rH k f
    | value g =>
      simp only [eI, hop, hc]
      split
      · rw [dZ, aLz]
      · rfl
    | builtin b =>
      cases b
      case append =>
        simp only [eI, hop, hc]
        split
        · rename_i x z _
          exact aHZ _ (fun v => k ((s.take x).put o.dst v)) f
        · rfl
      case clear =>
        simp only [eI, hop, hc]
        split
        · split
          · rw [Option.bind_assoc]; congr 1; funext cs
            rw [Option.bind_assoc]; congr 1; funext t
            rw [Option.bind_assoc]; congr 1; funext e
            rw [Option.bind_assoc]; congr 1; funext ze
            rw [dZ, dZ]
          · rfl
        · rfl
      all_goals (simp only [eI, hop, hc]; exact rH k f)
  all_goals (simp only [eI, hop]; exact rH k f)
theorem aLH {nt : Nat} {mv pu ta : Bool} {rk : Nat} {ops : Array Oper} {o : Oper} {s : (St m)} (k : (St m) → Option α) (f : α → Option β) : (aFQ P D nt mv pu ta rk ops o s k).bind f = aFQ P D nt mv pu ta rk ops o s fun n => (k n).bind f := by
  unfold aFQ
  split
  · exact aIr k f
  · split
    · unfold aJH
      split
      · rw [aBn, aIr]
      · rfl
      · rfl
    · rfl
theorem aGI {nt : Nat} {mv pu ta : Nat → Bool} {rk : Nat → Nat} {ops : Array Oper} : ∀ (l : List Oper) (i : Nat) (s : (St m)) (k : (St m) → Option α) (f : α → Option β), (vS P D nt mv pu ta rk ops l i s k).bind f = vS P D nt mv pu ta rk ops l i s fun n => (k n).bind f
  | [], i, s, k, f => rfl
  | o :: l, i, s, k, f => by
    simp only [vS]
    rw [aLH]
    congr 1
    funext s'
    exact aGI l (i + 1) s' k f
end
theorem aHP {P : Program} {D : (bA m)} {H : eX} {loop : ((St m) → Option (Out m)) → ((St m) → Option (St m)) → (St m) → Option (Out m)} : ∀ (c : Code) (blk : Nat) {β γ : Type} (s : (St m)) (k : (Out m) → Option β) (f : β → Option γ), (cY P D H loop blk c s k).bind f = cY P D H loop blk c s fun o => (k o).bind f := by
  intro c
  induction c with
  | skip => intro blk β γ s k f; rfl
  | region id ops draw =>
    intro blk β γ s k f
    simp only [cY, pF]
    rw [dZ, aGI]
  | seq a b iha ihb =>
    intro blk β γ s k f
    simp only [cY]
    rw [iha]
    congr 1
    funext o
    cases o with
    | norm s' => exact ihb blk s' k f
    | exit id s' => rfl
    | ret s' => rfl
  | cond x a b iha ihb =>
    intro blk β γ s k f
    simp only [cY, pF]
    rw [aGs]
    congr 1
    funext t
    rw [aBn, iha, ihb]
  | block id a ih =>
    intro blk β γ s k f
    simp only [cY]
    rw [ih]
    congr 1
    funext o
    cases o with
    | norm s' => rfl
    | exit id' s' => simp only [pV]; split <;> rfl
    | ret s' => rfl
  | loop a ih => intro blk β γ s k f; simp only [cY]; rw [Option.bind_assoc]
  | exit id => intro blk β γ s k f; rfl
  | ret => intro blk β γ s k f; rfl
  | _ => intro blk β γ s k f; rfl
def aO6 (ts bs : List Nat) (L : (St m) → Option (Out m)) : (Out m) → Option (Out m)
  | .norm s => (s.again ts bs).bind L
  | .exit id s => some (.exit id s)
  | .ret s => some (.ret s)
def aMb (P : Program) (D : (bA m)) (H : eX) (loop : ((St m) → Option (Out m)) → ((St m) → Option (St m)) → (St m) → Option (Out m)) (blk : Nat) (c : Code) (L : (St m) → Option (Out m)) (s : (St m)) : Option (Out m) :=
  (s.again (H.clear blk) (H.drop blk)).bind fun s => cY P D H loop blk c s (aO6 (H.clear blk) (H.drop blk) L)
noncomputable def aI2 (P : Program) (D : (bA m)) (H : eX) (blk : Nat) (c : Code) : (St m) → Option (Out m) := bQ (fun s => cY P D H bQ blk c s some) (fun s => s.again (H.clear blk) (H.drop blk))
theorem aBE {α : Type} (x : α) (ts : List Nat) : ∀ (l : List α), (∀ t ∈ ts, l[t]? = none ∨ l[t]? = some x) → ts.foldl (fun l t => l.set t x) l = l := by
  induction ts with
  | nil => intro l _; rfl
  | cons t ts ih =>
    intro l h
    have h0 : l.set t x = l := by
      rcases h t (by simp) with h | h
      · rw [List.set_eq_of_length_le (by simpa using h)]
      · apply List.ext_getElem?
        intro i
        by_cases hi : t = i
        · subst hi
          rw [List.getElem?_set_self (List.getElem?_eq_some_iff.1 h).1, h]
        · rw [List.getElem?_set_ne hi]
    rw [List.foldl_cons, h0]
    exact ih l fun u hu => h u (by simp [hu])
theorem aCO {α : Type} (x : α) (ts : List Nat) : ∀ (l : List α), ∀ t ∈ ts, (ts.foldl (fun l t => l.set t x) l)[t]? = none ∨ (ts.foldl (fun l t => l.set t x) l)[t]? = some x := by
  have zH : ∀ (ts : List Nat) (l : List α) (t : Nat), (l[t]? = none ∨ l[t]? = some x) → ((ts.foldl (fun l t => l.set t x) l)[t]? = none ∨ (ts.foldl (fun l t => l.set t x) l)[t]? = some x) := by
    intro ts
    induction ts with
    | nil => intro l t h; exact h
    | cons u ts ih =>
      intro l t h
      rw [List.foldl_cons]
      refine ih _ t ?_
      by_cases hu : u = t
      · subst hu
        by_cases hl : u < l.length
        · right; exact List.getElem?_set_self hl
        · left; exact List.getElem?_eq_none (by simpa using hl)
      · rw [List.getElem?_set_ne hu]; exact h
  induction ts with
  | nil => intro l t h; simp at h
  | cons u ts ih =>
    intro l t ht
    rw [List.foldl_cons]
    by_cases h : t ∈ ts
    · exact ih _ t h
    · have : t = u := by
        rcases List.mem_cons.1 ht with h' | h'
        · exact h'
        · exact absurd h' h
      subst this
      refine zH ts _ t ?_
      by_cases hl : t < l.length
      · right; exact List.getElem?_set_self hl
      · left; exact List.getElem?_eq_none (by simpa using hl)
theorem aKD (s : (St m)) (ts bs : List Nat) : (s.forget ts bs).forget ts bs = s.forget ts bs := by
  unfold St.forget
  congr 1
  · exact aBE _ _ _ (aCO _ _ _)
  · exact aBE _ _ _ (aCO _ _ _)
theorem aLT {s c : (St m)} {ts bs : List Nat} (h : s.again ts bs = some c) : c.again ts bs = some c := by
  unfold St.again at h ⊢
  obtain ⟨h1, h2⟩ := aV h
  simp only [Option.some.injEq] at h2
  subst h2
  rw [aKD, h1]
  rfl
theorem aKR (P : Program) (D : (bA m)) (H : eX) (blk : Nat) (c : Code) (s : (St m)) : aI2 P D H blk c s = (s.again (H.clear blk) (H.drop blk)).bind (aI2 P D H blk c) := by
  unfold aI2
  rw [aFj]
  cases h : s.again (H.clear blk) (H.drop blk) with
  | none => rfl
  | some c' =>
    simp only [Option.bind_some]
    rw [aFj _ _ c', aLT h]
    rfl
theorem aLK (P : Program) (D : (bA m)) (H : eX) (blk : Nat) (c : Code) (s : (St m)) : aI2 P D H blk c s = aMb P D H bQ blk c (aI2 P D H blk c) s := by
  show bQ _ _ s = _
  rw [aFj]
  unfold aMb
  congr 1
  funext s'
  rw [aHP]
  congr 1
  funext o
  cases o with
  | norm s2 => exact aKR P D H blk c s2
  | exit id s2 => rfl
  | ret s2 => rfl
end Go.Vs
end
section
namespace Go.Vs
variable {m : Bool}
def eY : Nat → Code → List Nat → Nat
  | b, _, [] => b
  | b, .seq x y, n :: r => if n = 0 then eY b x r else eY b y r
  | b, .cond _ x y, n :: r => if n = 0 then eY b x r else eY b y r
  | _, .block id x, _ :: r => eY id x r
  | b, .loop x, _ :: r => eY b x r
  | b, _, _ => b
def aHX {β : Type} (s : St m) (ts bs : List Nat) (k : (St m) → Option β) : Option β := aA ((s.forget ts bs).noBox bs) (k (s.forget ts bs))
theorem aHK {β : Type} (s : St m) (ts bs : List Nat) (k : (St m) → Option β) : (s.again ts bs).bind k = aHX s ts bs k := by
  unfold St.again aHX
  cases (s.forget ts bs).noBox bs <;> rfl
def aFI {β : Type} (ts bs : List Nat) (L : (St m) → Option β) (k : (Out m) → Option β) : (Out m) → Option β
  | .norm s => aHX s ts bs L
  | .exit id s => k (.exit id s)
  | .ret s => k (.ret s)
noncomputable def eV {β : Type} (P : Program) (D : (bA m)) (H : eX) : Nat → Code → List Nat → ((Out m) → Option β) → (Out m) → Option β
  | _, _, [], k => k
  | b, .seq x y, n :: r, k => if n = 0 then eV P D H b x r (aIq (fun s => cY P D H bQ b y s k) k) else eV P D H b y r k
  | b, .cond _ x y, n :: r, k => if n = 0 then eV P D H b x r k else eV P D H b y r k
  | _, .block id x, _ :: r, k => eV P D H id x r (pV id k)
  | b, .loop x, _ :: r, k => eV P D H b x r (aFI (H.clear b) (H.drop b) (fun s => cY P D H bQ b (.loop x) s k) k)
  | _, _, _, k => k
noncomputable def atF (P : Program) (D : (bA m)) (H : FuncId → eX) (f : FuncId) (p : List Nat) (n : Nat) (s : (St m)) : Option ((SV m) × List (List (SV m))) :=
  cY P D ((H f).fit (sN P f).ntmps) bQ (eY 0 (tN P f) p) (sub (tN P f) p) s (eV P D ((H f).fit (sN P f).ntmps) 0 (tN P f) p (aJx P (sN P f) n))
theorem aNE {β : Type} (P : Program) (D : (bA m)) (H : eX) (b : Nat) (c : Code) (s : (St m)) (k : (Out m) → Option β) :
    cY P D H bQ b (.loop c) s k = (s.again (H.clear b) (H.drop b)).bind fun s => cY P D H bQ b c s (aFI (H.clear b) (H.drop b) (fun s => cY P D H bQ b (.loop c) s k) k) := by
  have h0 : ∀ s, cY P D H bQ b (.loop c) s k = (aI2 P D H b c s).bind k := fun s => rfl
  rw [h0, aLK]
  unfold aMb
  rw [Option.bind_assoc]
  congr 1
  funext s'
  rw [aHP]
  congr 1
  funext o
  cases o with
  | norm s2 =>
    simp only [aO6, aFI, ← aHK, Option.bind_assoc]
    congr 1
  | exit id s2 => rfl
  | ret s2 => rfl
end Go.Vs
end
section
namespace Go.Vs
variable {m : Bool}
section
variable {β : Type}
def nU (P : Program) (D : (bA m)) (H : eX) (nm : List (List Nat)) (J : List Nat × (St m) → Option β) : List Nat → Nat → Code → (St m) → ((Out m) → Option β) → Option β
  | _, _, .skip, s, k => k (.norm s)
  | _, _, .region id ops draw, s, k => aA (!draw || vJ (H.mv id) (H.pure id) (H.take id) ops) (rW (St.freeze H.nt s (H.fz (4194304 + id))) fun s => vS P D H.nt (H.mv id) (H.pure id) (H.take id) (aP3 H id) ops ops.toList 0 s fun s' => rW (St.freeze H.nt (s'.tidy (H.after id) (H.afterB id)) (H.fz id)) fun s' => k (.norm s'))
  | r, blk, .seq a b, s, k =>
    if nm.contains (0 :: r).reverse then J ((0 :: r).reverse, s) else nU P D H nm J (0 :: r) blk a s (aIq (fun s' => if nm.contains (1 :: r).reverse then J ((1 :: r).reverse, s') else nU P D H nm J (1 :: r) blk b s' k) k)
  | r, blk, .cond c a b, s, k => lL (s.eval c) fun t => aC t
      (rW (s.dropC H.condA c) fun s => if nm.contains (0 :: r).reverse then J ((0 :: r).reverse, s) else nU P D H nm J (0 :: r) blk a s k)
      (rW (s.dropC H.condB c) fun s => if nm.contains (1 :: r).reverse then J ((1 :: r).reverse, s) else nU P D H nm J (1 :: r) blk b s k)
  | r, _, .block id a, s, k => if nm.contains (0 :: r).reverse then J ((0 :: r).reverse, s) else nU P D H nm J (0 :: r) id a s (pV id k)
  | r, blk, .loop a, s, k => aHX s (H.clear blk) (H.drop blk) fun s => if nm.contains (0 :: r).reverse then J ((0 :: r).reverse, s) else nU P D H nm J (0 :: r) blk a s (aFI (H.clear blk) (H.drop blk) (fun s => J (r.reverse, s)) k)
  | _, _, .exit id, s, k => k (.exit id s)
  | _, _, .ret, s, k => k (.ret s)
  | _, _, _, _, _ => none
theorem iM : ∀ (p : List Nat) (c : Code) (q : List Nat), sub c (p ++ q) = sub (sub c p) q
  | [], c, q => by simp [sub]
  | n :: p, c, q => by
    cases c <;> simp only [List.cons_append, sub]
    case seq a b => split <;> exact iM p _ q
    case cond x a b => split <;> exact iM p _ q
    case block id a => exact iM p _ q
    case loop a => exact iM p _ q
    all_goals (cases q <;> rfl)
theorem gG : ∀ (p : List Nat) (b : Nat) (c : Code) (q : List Nat), eY b c (p ++ q) = eY (eY b c p) (sub c p) q
  | [], b, c, q => by simp [sub, eY]
  | n :: p, b, c, q => by
    cases c <;> simp only [List.cons_append, sub, eY]
    case seq x y => split <;> exact gG p _ _ q
    case cond x x y => split <;> exact gG p _ _ q
    case block id x => exact gG p _ _ q
    case loop x => exact gG p _ _ q
    all_goals (cases q <;> rfl)
theorem gK (P : Program) (D : (bA m)) (H : eX) : ∀ (p : List Nat) (b : Nat) (c : Code) (q : List Nat) (k : (Out m) → Option β), eV P D H b c (p ++ q) k = eV P D H (eY b c p) (sub c p) q (eV P D H b c p k)
  | [], b, c, q, k => by simp [sub, eY, eV]
  | n :: p, b, c, q, k => by
    cases c <;> simp only [List.cons_append, sub, eY, eV]
    case seq x y => split <;> exact gK P D H p _ _ q _
    case cond x x y => split <;> exact gK P D H p _ _ q _
    case block id x => exact gK P D H p _ _ q _
    case loop x => exact gK P D H p _ _ q _
    all_goals (cases q <;> rfl)
theorem aKV {P : Program} {D : (bA m)} {H : eX} {nm : List (List Nat)} {J : List Nat × (St m) → Option β} {root : Code} {kE : (Out m) → Option β}
    (hJ : ∀ p s, J (p, s) = cY P D H bQ (eY 0 root p) (sub root p) s (eV P D H 0 root p kE)) :
    ∀ (c : Code) (r : List Nat) (blk : Nat) (s : (St m)) (k : (Out m) → Option β), sub root r.reverse = c → eY 0 root r.reverse = blk → eV P D H 0 root r.reverse kE = k → nU P D H nm J r blk c s k = cY P D H bQ blk c s k := by
  intro c
  induction c with
  | skip => intro r blk s k _ _ _; rfl
  | region id ops draw => intro r blk s k _ _ _; rfl
  | seq a b iha ihb =>
    intro r blk s k hc hb hk
    have ha0 : sub root (0 :: r).reverse = a := by rw [List.reverse_cons, iM, hc]; simp [sub]
    have ha1 : eY 0 root (0 :: r).reverse = blk := by rw [List.reverse_cons, gG, hc, hb]; simp [eY]
    have ha2 : eV P D H 0 root (0 :: r).reverse kE = aIq (fun s => cY P D H bQ blk b s k) k := by rw [List.reverse_cons, gK, hc, hb, hk]; simp [eV]
    have hb0 : sub root (1 :: r).reverse = b := by rw [List.reverse_cons, iM, hc]; simp [sub]
    have hb1 : eY 0 root (1 :: r).reverse = blk := by rw [List.reverse_cons, gG, hc, hb]; simp [eY]
    have hb2 : eV P D H 0 root (1 :: r).reverse kE = k := by rw [List.reverse_cons, gK, hc, hb, hk]; simp [eV]
    have eb : (fun s' => if nm.contains (1 :: r).reverse then J ((1 :: r).reverse, s') else nU P D H nm J (1 :: r) blk b s' k) = fun s' => cY P D H bQ blk b s' k := by
      funext s'
      split
      · rw [hJ, hb0, hb1, hb2]
      · exact ihb _ _ _ _ hb0 hb1 hb2
    simp only [nU, cY]
    rw [eb]
    split
    · rw [hJ, ha0, ha1, ha2]
    · exact iha _ _ _ _ ha0 ha1 ha2
  | cond x a b iha ihb =>
    intro r blk s k hc hb hk
    have ha0 : sub root (0 :: r).reverse = a := by rw [List.reverse_cons, iM, hc]; simp [sub]
    have ha1 : eY 0 root (0 :: r).reverse = blk := by rw [List.reverse_cons, gG, hc, hb]; simp [eY]
    have ha2 : eV P D H 0 root (0 :: r).reverse kE = k := by rw [List.reverse_cons, gK, hc, hb, hk]; simp [eV]
    have hb0 : sub root (1 :: r).reverse = b := by rw [List.reverse_cons, iM, hc]; simp [sub]
    have hb1 : eY 0 root (1 :: r).reverse = blk := by rw [List.reverse_cons, gG, hc, hb]; simp [eY]
    have hb2 : eV P D H 0 root (1 :: r).reverse kE = k := by rw [List.reverse_cons, gK, hc, hb, hk]; simp [eV]
    simp only [nU, cY, pF]
    congr 1
    funext t
    congr 1
    · split
      · rw [hJ, ha0, ha1, ha2]
      · exact iha _ _ _ _ ha0 ha1 ha2
    · split
      · rw [hJ, hb0, hb1, hb2]
      · exact ihb _ _ _ _ hb0 hb1 hb2
  | block id a ih =>
    intro r blk s k hc hb hk
    have ha0 : sub root (0 :: r).reverse = a := by rw [List.reverse_cons, iM, hc]; simp [sub]
    have ha1 : eY 0 root (0 :: r).reverse = id := by rw [List.reverse_cons, gG, hc, hb]; simp [eY]
    have ha2 : eV P D H 0 root (0 :: r).reverse kE = pV id k := by rw [List.reverse_cons, gK, hc, hb, hk]; simp [eV]
    simp only [nU, cY]
    split
    · rw [hJ, ha0, ha1, ha2]
    · exact ih _ _ _ _ ha0 ha1 ha2
  | loop a ih =>
    intro r blk s k hc hb hk
    have ha0 : sub root (0 :: r).reverse = a := by rw [List.reverse_cons, iM, hc]; simp [sub]
    have ha1 : eY 0 root (0 :: r).reverse = blk := by rw [List.reverse_cons, gG, hc, hb]; simp [eY]
    have eL : (fun s => J (r.reverse, s)) = fun s => cY P D H bQ blk (.loop a) s k := by funext s'; rw [hJ, hc, hb, hk]
    have ha2 : eV P D H 0 root (0 :: r).reverse kE = aFI (H.clear blk) (H.drop blk) (fun s => cY P D H bQ blk (.loop a) s k) k := by rw [List.reverse_cons, gK, hc, hb, hk]; simp [eV]
    simp only [nU]
    rw [aNE, aHK, eL]
    unfold aHX
    congr 1
    simp only
    split
    · rw [hJ, ha0, ha1, ha2]
    · exact ih _ _ _ _ ha0 ha1 ha2
  | exit id => intro r blk s k _ _ _; rfl
  | ret => intro r blk s k _ _ _; rfl
  | _ => intro r blk s k _ _ _; rfl
end
noncomputable def tY {β : Type} (P : Program) (D : (bA m)) (H : eX) (nm : List (List Nat)) (J : List Nat × (St m) → Option β) : List Nat → Nat → Code → List Nat → ((Out m) → Option β) → (Out m) → Option β
  | _, _, _, [], k => k
  | r, b, .seq x y, n :: p, k => if n = 0 then tY P D H nm J (n :: r) b x p (aIq (fun s => if nm.contains (1 :: r).reverse then J ((1 :: r).reverse, s) else nU P D H nm J (1 :: r) b y s k) k) else tY P D H nm J (n :: r) b y p k
  | r, b, .cond _ x y, n :: p, k => if n = 0 then tY P D H nm J (n :: r) b x p k else tY P D H nm J (n :: r) b y p k
  | r, _, .block id x, n :: p, k => tY P D H nm J (n :: r) id x p (pV id k)
  | r, b, .loop x, n :: p, k => tY P D H nm J (n :: r) b x p (aFI (H.clear b) (H.drop b) (fun s => J (r.reverse, s)) k)
  | _, _, _, _, k => k
theorem aNR {β : Type} {P : Program} {D : (bA m)} {H : eX} {nm : List (List Nat)} {J : List Nat × (St m) → Option β} {root : Code} {kE : (Out m) → Option β}
    (hJ : ∀ p s, J (p, s) = cY P D H bQ (eY 0 root p) (sub root p) s (eV P D H 0 root p kE)) :
    ∀ (p : List Nat) (c : Code) (r : List Nat) (blk : Nat) (k : (Out m) → Option β), sub root r.reverse = c → eY 0 root r.reverse = blk → eV P D H 0 root r.reverse kE = k → tY P D H nm J r blk c p k = eV P D H blk c p k := by
  intro p
  induction p with
  | nil => intro c r blk k _ _ _; simp [tY, eV]
  | cons n p ih =>
    intro c r blk k hc hb hk
    have hs : ∀ n, sub root (n :: r).reverse = sub c [n] := fun n => by rw [List.reverse_cons, iM, hc]
    have hbl : ∀ n, eY 0 root (n :: r).reverse = eY blk c [n] := fun n => by rw [List.reverse_cons, gG, hc, hb]
    have hkk : ∀ n, eV P D H 0 root (n :: r).reverse kE = eV P D H blk c [n] k := fun n => by rw [List.reverse_cons, gK, hc, hb, hk]
    cases c with
    | seq x y =>
      have hb0 : sub root (1 :: r).reverse = y := by rw [hs]; simp [sub]
      have hb1 : eY 0 root (1 :: r).reverse = blk := by rw [hbl]; simp [eY]
      have hb2 : eV P D H 0 root (1 :: r).reverse kE = k := by rw [hkk]; simp [eV]
      have eb : (fun s => if nm.contains (1 :: r).reverse then J ((1 :: r).reverse, s) else nU P D H nm J (1 :: r) blk y s k) = fun s => cY P D H bQ blk y s k := by
        funext s'
        split
        · rw [hJ, hb0, hb1, hb2]
        · exact aKV hJ _ _ _ _ _ hb0 hb1 hb2
      simp only [tY, eV]
      rw [eb]
      by_cases hn : n = 0
      · subst hn
        simp only [if_true]
        exact ih _ _ _ _ (by rw [hs]; simp [sub]) (by rw [hbl]; simp [eY]) (by rw [hkk]; simp [eV])
      · simp only [hn, if_false]
        exact ih _ _ _ _ (by rw [hs]; simp [sub, hn]) (by rw [hbl]; simp [eY, hn]) (by rw [hkk]; simp [eV, hn])
    | cond z x y =>
      simp only [tY, eV]
      by_cases hn : n = 0
      · subst hn
        simp only [if_true]
        exact ih _ _ _ _ (by rw [hs]; simp [sub]) (by rw [hbl]; simp [eY]) (by rw [hkk]; simp [eV])
      · simp only [hn, if_false]
        exact ih _ _ _ _ (by rw [hs]; simp [sub, hn]) (by rw [hbl]; simp [eY, hn]) (by rw [hkk]; simp [eV, hn])
    | block id x =>
      simp only [tY, eV]
      exact ih _ _ _ _ (by rw [hs]; simp [sub]) (by rw [hbl]; simp [eY]) (by rw [hkk]; simp [eV])
    | loop x =>
      have eL : (fun s => J (r.reverse, s)) = fun s => cY P D H bQ blk (.loop x) s k := by funext s'; rw [hJ, hc, hb, hk]
      simp only [tY, eV]
      rw [eL]
      exact ih _ _ _ _ (by rw [hs]; simp [sub]) (by rw [hbl]; simp [eY]) (by rw [hkk]; simp [eV])
    | _ => simp [tY, eV]
noncomputable def uO (P : Program) (D : (bA m)) (H : FuncId → eX) (f : FuncId) (nm : List (List Nat)) (n : Nat) (J : List Nat × (St m) → Option ((SV m) × List (List (SV m)))) (x : List Nat × (St m)) : Option ((SV m) × List (List (SV m))) :=
  nU P D ((H f).fit (sN P f).ntmps) nm J x.1.reverse (eY 0 (tN P f) x.1) (sub (tN P f) x.1) x.2 (tY P D ((H f).fit (sN P f).ntmps) nm J [] 0 (tN P f) x.1 (aJx P (sN P f) n))
theorem aQ {P : Program} {D : (bA m)} {H : FuncId → eX} {f : FuncId} {n : Nat} {J : List Nat × (St m) → Option ((SV m) × List (List (SV m)))} (hJ : ∀ p s, J (p, s) = atF P D H f p n s) (nm : List (List Nat)) (x : List Nat × (St m)) :
    J x = uO P D H f nm n J x := by
  obtain ⟨p, s⟩ := x
  rw [hJ]
  unfold uO atF
  rw [aNR (root := tN P f) (fun p s => hJ p s) _ _ _ _ _ (by simp [sub]) (by simp [eY]) (by simp [eV])]
  exact (aKV (root := tN P f) (fun p s => hJ p s) _ _ _ _ _ (by simp) (by simp) (by simp)).symm
end Go.Vs
namespace Go.Vs
theorem aI {m : Bool} {P : Program} {D : (bA m)} {H : FuncId → eX} {f : FuncId} {args : List (SV m)} {boxes : List (List (SV m))} {J : List Nat × (St m) → Option ((SV m) × List (List (SV m)))}
    {nb : Nat} (hb : ((P.funcs[f]?).bind (·.body)).isSome = true) (hJ : ∀ p s, J (p, s) = atF P D H f p nb s) (nm : List (List Nat)) (hnb : boxes.length = nb := by rfl) :
    bB P D H bQ f args boxes = uO P D H f nm nb J ([], St.freeze (sN P f).ntmps (xA (sN P f) args boxes) ((H f).fz 1048576)) := by
  subst hnb
  rw [← aQ hJ, hJ]
  unfold bB atF sN tN
  cases hfn : P.funcs[f]? with
  | none => rw [hfn] at hb; simp at hb
  | some fn =>
    rw [hfn] at hb
    simp only [Option.bind_some] at hb
    cases hc : fn.body with
    | none => rw [hc] at hb; simp at hb
    | some c => simp [sub, eY, eV, hc]
def cH {m : Bool} (n : Nat) : List (SV m) := List.replicate n .any
def noB {m : Bool} (n : Nat) : List (Option (List (SV m))) := List.replicate n none
end Go.Vs
end
section
namespace Go.Vs
namespace F
abbrev aQn := 3
abbrev aQ7 := 6
abbrev aRV := 7
abbrev aQp := 8
abbrev aQ6 := 9
abbrev aRH := 10
abbrev aQo := 11
abbrev aQF := 12
abbrev aRe := 13
abbrev aR0 := 14
abbrev aQN := 15
abbrev aRf := 16
abbrev aQv := 17
abbrev aQs := 18
abbrev aRY := 26
abbrev aRu := 27
abbrev aSa := 28
abbrev aRs := 29
abbrev aRc := 30
abbrev aRW := 31
abbrev aRA := 32
abbrev aR4 := 33
abbrev aRx := 34
abbrev aQr := 35
abbrev aQQ := 36
abbrev aRO := 37
abbrev aRl := 38
abbrev aR6 := 39
abbrev aRd := 40
abbrev aQS := 41
abbrev aRb := 42
abbrev aRi := 43
abbrev aQ5 := 44
abbrev aRT := 52
abbrev aQV := 54
abbrev aRw := 60
abbrev aRP := 63
abbrev aSf := 67
abbrev aRN := 68
abbrev aRD := 69
abbrev aRU := 70
abbrev aRg := 71
abbrev aRa := 72
abbrev aRM := 73
abbrev aQB := 74
abbrev aRm := 75
abbrev aR3 := 76
abbrev aRG := 77
abbrev aRL := 78
abbrev aRZ := 79
abbrev aQP := 80
abbrev aQ4 := 81
abbrev aQu := 82
abbrev aRC := 83
abbrev aQw := 84
abbrev aQA := 85
abbrev aRz := 86
abbrev aSc := 87
abbrev aSe := 88
abbrev aRJ := 89
abbrev aRX := 90
abbrev aRK := 91
abbrev aQC := 92
abbrev aQq := 93
abbrev aQE := 94
abbrev aQt := 95
abbrev aQG := 96
abbrev aR8 := 118
abbrev aQm := 120
abbrev aQk := 121
abbrev aQR := 123
abbrev aQz := 124
abbrev aQ1 := 125
abbrev aQJ := 126
abbrev aSb := 127
abbrev aR7 := 128
abbrev aRE := 129
abbrev aQD := 130
abbrev aRI := 131
abbrev aQT := 132
abbrev aQy := 133
abbrev aQ3 := 134
abbrev aQK := 135
abbrev aR1 := 136
abbrev aR2 := 137
abbrev aRq := 138
abbrev aRS := 139
abbrev aQM := 140
abbrev aQh := 141
abbrev aQY := 142
abbrev aQj := 143
abbrev aQZ := 144
abbrev aQx := 145
abbrev aQ9 := 146
abbrev aQO := 147
abbrev aR9 := 148
abbrev aSd := 149
abbrev aQg := 159
abbrev aRr := 166
abbrev aQH := 169
abbrev aRk := 170
abbrev aQX := 171
abbrev aRt := 172
abbrev aRo := 173
abbrev aQL := 174
abbrev aRy := 175
abbrev aQW := 176
abbrev aRp := 177
abbrev aQf := 178
abbrev aQ0 := 179
abbrev aRv := 180
abbrev aQi := 181
abbrev aQl := 182
abbrev aQI := 183
abbrev aRB := 184
abbrev aQU := 185
abbrev aRn := 186
abbrev aRQ := 204
abbrev aQ2 := 205
abbrev aRF := 206
abbrev aQ8 := 207
abbrev aRR := 208
abbrev aRh := 209
end F
namespace T
abbrev aSh := 9
abbrev aRj := 69
abbrev aSg := 148
abbrev aR5 := 194
end T
end Go.Vs
end
section
open Go Go.Vs Go.Proofs
namespace Go.Vs
def Hs : FuncId → eX := fun f => match f with
  | 3 => Tab.hints ⟨[[],[],[],[],[],[],[],[],[],[],[5,6],[],[2],[3,4],[],[],[],[],[],[],[],[],[0],[],[],[],[],[],[],[],[],[],[],[3,5,6],[0,1],[],[],[0]],[[],[],[],[],[],[],[],[],[],[],[],[],[],[],[],[],[],[],[],[],[],[2],[2],[],[],[],[2],[],[2],[],[],[],[],[],[],[],[],[2]],[],[],[],[[0,6],[16,17],[],[],[19,20,21],[22],[],[24,25,26],[7,27],[],[29,30,31,32,33,34],[35,36],[37,38],[39,40,41,42],[43,44,45],[],[47,48,49,50],[],[52,53,54,55],[],[],[9,57,58,59],[10,60,61,62],[12,63,64,65,66,67,68,69],[],[],[71,72,73],[],[74,75,76],[77],[],[14,79,80],[],[1,2,3,82,83,84,85,86,87],[8,15,88,89,90],[],[],[11,92,93,94],[95],[],[13,14,97,98]],[],[(18,[18,2,1,3],[]),(23,[23,3,1,2,7],[]),(28,[28,2,1,3],[]),(46,[46,3,1,2,8,11,10,9],[]),(51,[51,9,10,11,8,2,1,3],[]),(56,[56,3,1,2,8,11,10,9],[]),(70,[70,11,8,2,1,3],[]),(78,[78,3,1,2,8,13,11,14],[]),(81,[81,11,13,8,2,1,3],[]),(91,[91,13,11],[]),(96,[96,13,14],[]),(99,[99],[])],[(18,[18],[]),(23,[23],[]),(28,[28],[]),(46,[46],[]),(51,[51],[]),(56,[56],[]),(70,[70],[]),(78,[78],[]),(81,[81],[]),(91,[91],[]),(96,[96],[]),(99,[99],[])],[]⟩
  | 6 => Tab.hints ⟨[],[],[],[],[],[[0,4],[5,6,7,8],[9],[],[11,12,13,14],[15],[],[2,17,18,19,20],[21],[],[1,23]],[[],[],[],[],[],[],[],[2]],[(10,[10,2,1],[2]),(16,[16,1,2],[2]),(22,[22,1],[])],[(10,[10],[]),(16,[16],[]),(22,[22],[])],[]⟩
  | 7 => Tab.hints ⟨[],[],[],[(0,[2,3,4,6,7,8,9,10,11,12,13,14,15,16,17,18,19,20,21,22,23,24,25,26])],[],[[4],[6,7,8,9],[10],[],[],[12,13,14],[16,17],[18,19,20,21,22,23],[24],[],[1,26]],[],[(11,[11,0,1],[]),(15,[15],[]),(25,[25,0,1,5],[])],[(11,[11],[]),(15,[15,0,5],[]),(25,[25],[])],[]⟩
  | 8 => Tab.hints ⟨[[1],[],[1],[2,4,5]],[],[[],[],[],[4]],[],[],[[0,6],[7],[9],[1,2,3,10,11,12,13,14]],[[],[],[],[3]],[(8,[8,2,1,3],[3])],[(8,[8],[])],[]⟩
  | 9 => Tab.hints ⟨[],[],[],[],[],[[0],[],[4,5,6,7],[8,9,10,11],[1,12,13,14,15],[3,16]],[[],[],[],[],[1],[3]],[],[],[]⟩
  | 10 => Tab.hints ⟨[[0],[3],[],[],[],[],[0,1]],[],[],[(0,[1,2,5,6,7,8,9,10,11,12,13,14,15,16,17,18,19,20,21,22])],[],[[2],[5,6,7],[],[8,9,10],[12,13],[14,15,16,17,18,19,20,21],[3,22]],[[],[7]],[(11,[11],[])],[(11,[11,4,0],[])],[]⟩
  | 11 => Tab.hints ⟨[[1],[],[0],[2,3,4]],[],[],[],[],[[0,6],[7],[],[1,2,3,9,10,11,12]],[[],[],[],[3]],[(8,[8,2,1,3],[3])],[(8,[8],[])],[]⟩
  | 12 => Tab.hints ⟨[],[],[],[(0,[2,3,4,6,7,8,9,10,11,12,13,14,15,16,17,18,19,20,21,22,23,24,25,26])],[],[[4],[6,7,8,9],[],[],[11,12,13],[15,16],[17,18,19,20,21,22,23,24,25]],[],[(10,[10,0,1],[]),(14,[14],[]),(26,[26,0,1,5],[])],[(10,[10],[]),(14,[14,0,1,5],[]),(26,[26],[])],[]⟩
  | 13 => Tab.hints ⟨[],[],[],[],[],[[0,1,4],[5,6,7,8,9],[],[11,12,13,14,15],[],[2,3,17,18,19,20,21]],[[],[],[],[],[],[2,3]],[(10,[10,2,3],[2,3]),(16,[16,3,2],[2,3]),(22,[22],[])],[(10,[10],[]),(16,[16],[]),(22,[22],[])],[]⟩
  | 14 => Tab.hints ⟨[],[],[],[(0,[2,3,4,6,7,8,9,10,11,12,13,14,15,16,17,18,19,20,21,22,23,24,25,26])],[],[[4],[6,7,8,9],[],[],[11,12,13],[15,16],[17,18,19,20,21,22,23,24,25]],[],[(10,[10,0,1],[]),(14,[14],[]),(26,[26,0,1,5],[])],[(10,[10],[]),(14,[14,0,1,5],[]),(26,[26],[])],[]⟩
  | 15 => Tab.hints ⟨[],[],[],[],[],[[0,4],[5,6,7,8],[9,10,11,12],[2,13,14,15,16],[1,17]],[[],[],[],[2]],[],[],[]⟩
  | 16 => Tab.hints ⟨[],[],[],[(0,[2,3,4,6,7,8,9,10,11,12,13,14,15,16,17,18,19,20,21,22,23,24,25,26,27,28,29,30,31,32,33,34,35,36,37,38,39,40,41,42,43,44,45,46,47,48,49,50,51,52,53,54,55,56,57,58,59,60,61,62,63,64])],[],[[4],[],[6,7,8],[10,11],[12,13,14,15,16],[17,18],[19,20,21,22,23,24],[25,26],[27,28,29,30,31,32],[33,34],[35,36,37,38,39,40],[41,42],[43,44,45,46,47,48,49],[50,51,52,53,54,55,56],[57,58,59,60,61,62,63],[1,64]],[],[(9,[9],[])],[(9,[9,5,0],[])],[]⟩
  | 17 => Tab.hints ⟨[],[],[],[(0,[2,3,4,6,7,8,9,10,11,12,13,14,15,16,17,18,19,20,21,22,23,24,25,26,27,28,29,30,31,32,33,34,35])],[],[[4],[],[6,7,8],[10,11],[12,13,14,15,16],[17,18],[19,20,21,22,23,24],[25,26],[27,28,29,30,31,32],[33,34],[1,35]],[],[(9,[9],[])],[(9,[9,5,0],[])],[]⟩
  | 18 => Tab.hints ⟨[],[],[],[(0,[2,3,4,6,7,8,9,10,11,12,13,14,15,16,17,18,19,20,21,22,23,24,25,26,27,28,29,30,31,32,33,34,35,36,37,38,39,40,41])],[],[[4],[],[6,7,8],[10,11],[12,13,14,15,16,17],[],[19,20],[21,22,23,24,25,26,27],[],[29,30],[31,32,33,34,35,36,37],[],[39,40],[1,41]],[],[(9,[9],[]),(18,[18,0,5,1],[]),(28,[28,5,0,1],[]),(38,[38,0,5,1],[])],[(9,[9,0,5],[]),(18,[18],[]),(28,[28],[]),(38,[38],[])],[]⟩
  | 26 => Tab.hints ⟨[],[],[],[(0,[2,3,4,6,7,8,9,10,11,12,13,14,15,16,17,18,19,20,21,22,23,24,25,26])],[],[[4],[6,7,8,9],[10],[],[],[12,13,14],[16,17],[18,19,20,21,22,23],[24],[],[1,26]],[],[(11,[11,0,1],[]),(15,[15],[]),(25,[25,0,1,5],[])],[(11,[11],[]),(15,[15,0,5],[]),(25,[25],[])],[]⟩
  | 27 => Tab.hints ⟨[],[],[],[(0,[2,3,4,6,7,8,9,10,11,12,13,14,15,16,17,18,19,20,21,22,23,24,25,26])],[],[[4],[6,7,8,9],[10],[],[],[12,13,14],[16,17],[18,19,20,21,22,23],[24],[],[1,26]],[],[(11,[11,0,1],[]),(15,[15],[]),(25,[25,0,1,5],[])],[(11,[11],[]),(15,[15,0,5],[]),(25,[25],[])],[]⟩
  | 28 => Tab.hints ⟨[],[],[],[],[],[[0,4],[5,6,7,8,9],[10],[],[12,13,14,15,16],[17],[],[19,20,21,22,23],[24],[],[26,27,28,29],[30],[],[32,33,34,35],[36],[],[2,38,39,40,41],[42],[],[1,44]],[[],[],[],[],[],[],[],[],[],[],[],[],[],[],[],[],[2]],[(11,[11,2,1],[2]),(18,[18,2,1],[2]),(25,[25,2,1],[2]),(31,[31,2,1],[2]),(37,[37,1,2],[2]),(43,[43,1],[])],[(11,[11],[]),(18,[18],[]),(25,[25],[]),(31,[31],[]),(37,[37],[]),(43,[43],[])],[]⟩
  | 29 => Tab.hints ⟨[],[],[],[(0,[1,2,5,6,7,8,9,10,11,12,13,14,15,16,17,18,19,20,21,22])],[],[[2],[],[],[5,6,7,8,9,10,11],[13,14],[15,16,17,18,19,20],[3,21,22]],[],[(12,[12],[])],[(12,[12,4,0],[])],[]⟩
  | 30 => Tab.hints ⟨[[1],[],[],[],[],[],[],[],[],[0,7],[],[],[0,7],[],[0,7],[6,7,8],[],[],[],[],[],[0,7],[],[0,7],[4,5,6],[0,1]],[],[[],[],[],[],[],[],[],[],[],[],[],[],[],[],[],[7],[],[],[],[],[],[],[],[],[5]],[(0,[0,5,6,7,8,10,11,12,13,14,15,16,17,18,19,20,21,22,23,24,25,26,27,28,29,30,31,32,33,34,35,36,37,38,39,40,41,42,43,44,45,46,47,48,49,50,51,52,53,54,55,56,57,58,59,60,61,62,63,64,65,66,67,68,69,70,71,72,73,74,75,76,77,78,79,80,81,82,83,84,85,86,87,88,89,90,91,92,93,94,95,96,97,98,99,100,101,102,103,104,105,106,107,108,109,110,111,112,113,114,115,116,117,118,119,120,121,122,123,124,125,126,127])],[(0,[10,11])],[[0,8],[],[15,16,17],[19,20],[21,22,23,24],[25],[28],[29,30,31,32,33,34,35,36],[12,37],[10,39,40,41,42,43,44,45],[46,47,48,49,50],[51,52,53,54,55,56],[58,59,60,61,62,63,64],[13,65,66,67,68,69,70,71],[73,74,75,76,77,78,79],[10,11,80,81,82,83,84,85,86,87],[26,89],[90],[91,92],[94,95],[96,97,98,99],[10,101,102,103,104,105,106,107],[108,109,110,111,112],[114,115,116,117,118,119,120],[10,14,121,122,123,124,125,126],[3,127]],[[],[],[],[],[],[],[],[],[],[10],[],[],[],[],[],[10,11],[],[],[],[],[],[10],[],[],[10]],[(18,[18],[]),(27,[27,26],[]),(88,[88],[]),(93,[93,14],[]),(100,[100,14],[]),(113,[113],[]),(38,[38,11],[11]),(57,[57],[]),(72,[72],[])],[(18,[18,9,1,4,2],[4]),(27,[27],[]),(88,[88,10],[10]),(93,[93],[]),(100,[100],[]),(113,[113],[]),(38,[38],[]),(57,[57],[]),(72,[72],[])],[]⟩
  | 31 => Tab.hints ⟨[[0],[3],[],[],[],[],[0,1]],[],[],[(0,[1,2,5,6,7,8,9,10,11,12,13,14,15,16,17,18,19,20,21,22])],[],[[2],[5,6,7],[],[8,9,10],[12,13],[14,15,16,17,18,19,20,21],[3,22]],[[],[7]],[(11,[11],[])],[(11,[11,4,0],[])],[]⟩
  | 32 => Tab.hints ⟨[[0],[3],[],[],[],[],[0,1]],[],[],[(0,[1,2,5,6,7,8,9,10,11,12,13,14,15,16,17,18,19,20,21,22])],[],[[2],[5,6,7],[],[8,9,10],[12,13],[14,15,16,17,18,19,20,21],[3,22]],[[],[7]],[(11,[11],[])],[(11,[11,4,0],[])],[]⟩
  | 33 => Tab.hints ⟨[],[],[],[],[],[[0],[],[4,5,6],[7,8,9],[10,11,12],[13,14,15],[16,17,18,19],[20,21,22,23],[1,24,25,26,27],[3,28]],[[],[],[],[],[],[],[],[],[1],[3]],[],[],[]⟩
  | 34 => Tab.hints ⟨[[],[],[],[],[1]],[[],[],[],[],[2]],[],[],[],[[2],[],[],[5],[0,4,6,7,8],[3,9,10]],[[],[],[],[],[4],[3]],[],[],[(3,[4])]⟩
  | 35 => Tab.hints ⟨[[1],[0],[0],[],[],[],[],[],[],[],[],[],[],[7],[],[],[],[],[8],[],[3,4]],[[],[],[],[],[],[],[],[],[],[4],[],[11],[12],[8],[],[],[4],[15],[9]],[],[(0,[0,2,4,5,6,8,9,10,11,12,13,14,18,19,20,21,22,23,24,25,26,27,28,29,30,31,32,33,34,35,36,37,38,39,40,41,42,43,44,45,46,47,48,49,50,51,52,53,54,55,56,57,58,59,60,61,62,63,64,65,66,67,68,69,70,71,72,73,74,75,76,77,78,79,80,81,82,83,84,85,86,87,88,89,90,91,92,93,94,95,96,97,98,99,100,101,102,103,104,105,106,107,108,109,110,111,112,113,114,115,116,117,118,119,120,121,122,123,124,125,126])],[(0,[9,10])],[[0,6],[13,14],[2],[],[19,20],[21],[24],[25,26,27,28,29,30,31,32],[11,33],[9,35,36,37,38,39],[40,41,42,43,44],[45,46,47,48,49,50,51,52,53,54,55,56],[12,57,58,59,60,61,62,63,64,65,66,67,68,69],[9,10,70,71,72,73,74,75,76,77,78],[22,80],[81,82,83,84,85,86,87,88,89],[9,91,92,93,94,95],[96,97,98,99,100,101,102,103,104,105,106,107,108,109,110,111],[9,112,113,114,115,116,117,118,119,120,121],[122],[7,123,124,125,126]],[[],[14],[],[],[],[],[],[],[],[9],[],[],[],[9,10],[],[],[9],[],[9]],[(18,[18],[]),(23,[23,22],[]),(79,[79],[]),(90,[90],[]),(34,[34,10],[10])],[(18,[18,17,1,3,15,16],[3]),(23,[23],[]),(79,[79,9],[9]),(90,[90],[]),(34,[34],[])],[]⟩
  | 36 => Tab.hints ⟨[],[],[],[],[],[[0,1,4],[5,6,7,8],[],[10,11,12,13],[],[2,3,15,16,17,18]],[[],[],[],[],[],[2,3]],[(9,[9,2,3],[2,3]),(14,[14,3,2],[2,3]),(19,[19],[])],[(9,[9],[]),(14,[14],[]),(19,[19],[])],[]⟩
  | 37 => Tab.hints ⟨[],[],[],[(0,[2,3,4,6,7,8,9,10,11,12,13,14,15,16,17,18,19,20,21,22,23,24,25,26])],[],[[4],[6,7,8,9],[],[],[11,12,13],[15,16],[17,18,19,20,21,22,23,24,25]],[],[(10,[10,0,1],[]),(14,[14],[]),(26,[26,0,1,5],[])],[(10,[10],[]),(14,[14,0,1,5],[]),(26,[26],[])],[]⟩
  | 38 => Tab.hints ⟨[],[],[],[(0,[2,3,4,6,7,8,9,10,11,12,13,14,15,16,17,18,19,20,21,22,23,24,25,26])],[],[[4],[6,7,8,9],[],[],[11,12,13],[15,16],[17,18,19,20,21,22,23,24,25]],[],[(10,[10,0,1],[]),(14,[14],[]),(26,[26,0,1,5],[])],[(10,[10],[]),(14,[14,0,1,5],[]),(26,[26],[])],[]⟩
  | 39 => Tab.hints ⟨[],[],[],[],[],[[0,1,4],[5,6,7,8],[],[10,11,12,13],[],[15,16,17,18],[],[20,21,22,23],[],[25,26,27,28,29],[],[31,32,33,34,35],[],[2,3,37,38,39,40,41]],[[],[],[],[],[],[],[],[],[],[],[],[],[],[2,3]],[(9,[9,2,3],[2,3]),(14,[14,3,2],[2,3]),(19,[19,2,3],[2,3]),(24,[24,3,2],[2,3]),(30,[30,2,3],[2,3]),(36,[36,3,2],[2,3]),(42,[42],[])],[(9,[9],[]),(14,[14],[]),(19,[19],[]),(24,[24],[]),(30,[30],[]),(36,[36],[]),(42,[42],[])],[]⟩
  | 40 => Tab.hints ⟨[],[],[],[(0,[2,3,4,6,7,8,9,10,11,12,13,14,15,16,17,18,19,20,21,22,23,24,25,26,27,28,29,30,31,32,33,34,35,36,37,38,39,40,41,42,43,44,45,46,47,48,49,50,51,52,53,54,55,56,57,58,59,60,61,62,63,64,65,66,67,68,69,70,71,72,73,74,75,76,77,78,79,80,81,82,83,84,85,86,87,88,89,90,91,92,93,94,95])],[],[[4],[],[6,7,8],[10,11],[12,13,14,15,16],[17,18],[19,20,21,22,23,24,25],[26,27],[28,29,30,31,32,33],[34,35],[36,37,38,39,40,41],[42,43],[44,45,46,47,48,49,50],[51,52,53,54,55,56,57],[58,59,60,61,62,63,64],[65,66,67,68,69,70,71],[72,73,74,75,76,77,78],[79,80,81,82,83,84,85],[86,87],[88,89,90,91,92,93,94],[1,95]],[],[(9,[9],[])],[(9,[9,5,0],[])],[]⟩
  | 41 => Tab.hints ⟨[],[],[],[(0,[2,3,4,6,7,8,9,10,11,12,13,14,15,16,17,18,19,20,21,22,23,24,25,26,27])],[],[[4],[],[6,7,8],[10,11],[12,13,14,15,16],[17,18],[19,20,21,22,23,24],[25,26],[1,27]],[],[(9,[9],[])],[(9,[9,5,0],[])],[]⟩
  | 42 => Tab.hints ⟨[],[],[],[(0,[1,2,4,5,6,7,8,9,10,11,12,13,14,15,16,17,18,19])],[],[[2],[4],[],[],[6],[8,9,10,11,12,13,14,15],[16,17],[3,18,19]],[],[(5,[5,0],[]),(7,[7],[])],[(5,[5],[]),(7,[7,0],[])],[]⟩
  | 43 => Tab.hints ⟨[],[],[],[(0,[2,3,4,6,7,8,9,10,11,12,13,14,15,16,17,18,19,20,21,22,23,24,25,26,27,28,29,30,31,32,33,34,35,36,37,38,39,40,41,42,43,44,45,46,47,48,49,50,51,52,53])],[],[[4],[],[6,7,8],[10,11],[12,13,14,15,16,17],[18,19],[20,21,22,23,24,25],[26,27],[28,29,30,31,32,33,34],[35,36],[37,38,39,40,41,42,43,44],[45,46,47,48,49,50,51,52],[1,53]],[],[(9,[9],[])],[(9,[9,5,0],[])],[]⟩
  | 44 => Tab.hints ⟨[],[],[],[(0,[2,3,4,6,7,8,9,10,11,12,13,14,15,16,17,18,19,20,21,22,23,24,25,26,27])],[],[[4],[],[6,7,8],[10,11],[12,13,14,15,16,17],[18,19],[20,21,22,23,24,25,26],[1,27]],[],[(9,[9],[])],[(9,[9,5,0],[])],[]⟩
  | 52 => Tab.hints ⟨[],[],[],[(0,[0,3,4,6,7,8,9,10,11,12,13,14,15,16,17,18,19,20,21,22,23,24,25,26,27])],[],[[0,4],[],[6,7,8,9,10,11,12,13,14,15],[17,18],[19,20,21,22,23,24,25],[5,27]],[],[(16,[16],[]),(26,[26,2,1],[2])],[(16,[16,2,1,5],[2]),(26,[26],[])],[]⟩
  | 54 => Tab.hints ⟨[[0],[],[1,3],[5,6],[1,5,6],[1],[],[],[],[],[],[],[],[],[],[],[0,4],[0,1]],[],[],[(0,[0,1,2,8,9,10,11,12,13,14,15,16,17,18,19,20,21,22,23,24,25,26,27,28,29,30,31,32,33,34,35,36,37,38,39,40,41,42,43,44,45,46,47,48,49,50,51,52,53,54,55,56,57,58,59,60,61,62,63,64,65,66,67,68,69,70,71,72,73,74,75,76,77,78,79,80,81,82,83,84,85,86,87,88])],[],[[2],[9,10],[0,12,13,14],[15,16,17,18,19,20],[0,21,22,23,24,25,26],[27],[],[],[28,29,30,31,32,33,34,35,36],[8],[38,39,40,41,42,43,44,45,46,47,48,49,50,51,52,53,54,55,56,57],[59,60,61,62],[63,64],[65,66,67,68],[69,70],[71,72,73,74,75,76,77,78,79,80,81,82],[8,84,85,86,87],[5,88]],[],[(11,[11],[]),(37,[37],[]),(58,[58],[]),(83,[83],[])],[(11,[11],[]),(37,[37,6,3,4,7],[]),(58,[58],[]),(83,[83,8],[])],[]⟩
  | 60 => Tab.hints ⟨[[],[],[],[0]],[],[],[],[],[[0,5],[1,7,8,9],[10],[12],[2,6,13,14,15,16,17]],[[],[],[],[],[2]],[(11,[11,6,2],[2])],[(11,[11],[])],[]⟩
  | 63 => Tab.hints ⟨[],[],[],[],[],[[0,4],[1,2,5,6,7,8]],[[],[2]],[],[],[]⟩
  | 67 => Tab.hints ⟨[],[],[],[],[],[[0,4],[5,6,7,8,9],[10],[],[12,13,14,15,16],[17],[],[19,20,21,22],[23],[],[25,26,27,28],[29],[],[31,32,33,34],[35],[],[37,38,39,40],[41],[],[43,44,45,46],[47],[],[2,49,50,51,52],[53],[],[1,55]],[[],[],[],[],[],[],[],[],[],[],[],[],[],[],[],[],[],[],[],[],[],[],[2]],[(11,[11,2,1],[2]),(18,[18,2,1],[2]),(24,[24,2,1],[2]),(30,[30,2,1],[2]),(36,[36,2,1],[2]),(42,[42,2,1],[2]),(48,[48,1,2],[2]),(54,[54,1],[])],[(11,[11],[]),(18,[18],[]),(24,[24],[]),(30,[30],[]),(36,[36],[]),(42,[42],[]),(48,[48],[]),(54,[54],[])],[]⟩
  | 68 => Tab.hints ⟨[],[],[],[],[],[[0,4],[2,5,6,7,8,9],[10],[],[1,12]],[[],[2]],[(11,[11,1],[])],[(11,[11],[])],[]⟩
  | 69 => Tab.hints ⟨[],[],[],[(0,[2,3,4,6,7,8,9,10,11,12,13,14,15,16,17,18,19,20,21,22,23,24,25,26])],[],[[4],[6,7,8,9],[10],[],[],[12,13,14],[16,17],[18,19,20,21,22,23],[24],[],[1,26]],[],[(11,[11,0,1],[]),(15,[15],[]),(25,[25,0,1,5],[])],[(11,[11],[]),(15,[15,0,5],[]),(25,[25],[])],[]⟩
  | 70 => Tab.hints ⟨[],[],[],[(0,[2,3,4,6,7,8,9,10,11,12,13,14,15,16,17,18,19,20,21,22,23,24,25,26])],[],[[4],[6,7,8,9],[10],[],[],[12,13,14],[16,17],[18,19,20,21,22,23],[24],[],[1,26]],[],[(11,[11,0,1],[]),(15,[15],[]),(25,[25,0,1,5],[])],[(11,[11],[]),(15,[15,0,5],[]),(25,[25],[])],[]⟩
  | 71 => Tab.hints ⟨[],[],[],[(0,[0,3,4,6,7,8,9,10,11,12,13,14,15,16,17,18,19,20,21,22,23,24,25,26])],[],[[0,4],[6,7],[],[8,9,10,11,12,13,14,15],[17,18],[19,20,21,22,23,24,25],[1,26]],[],[(16,[16],[])],[(16,[16,5,2],[2])],[]⟩
  | 72 => Tab.hints ⟨[[],[],[2],[],[],[0],[6],[],[],[],[],[0],[0]],[],[],[(0,[0,1,3,4,5,7,8,11,12,13,14,15,16,17,18,19,20,21,22,23,24,25,26,27,28,29,30,31,32,33,34,35,36,37,38,39,40,41,42,43,44,45,46,47,48,49,50,51,52,53,54,55,56,57,58,59,60,61,62,63,64,65,66,67,68])],[],[[0,7],[11,12,13,14,15,16],[2,18,19,20],[1,21,22,23],[24,25,26,27,28,29,30,31,32,33,34,35,36,37,38,39,40,41,42],[44],[3,8,45,46,47,48,49,50],[],[51,52,53],[55,56],[57,58,59,60,61,62],[9,10,64,65,66,67],[68]],[[],[],[],[],[],[],[3]],[(17,[17,3,1],[3]),(43,[43,2,8,3],[3]),(54,[54],[]),(63,[63,2],[])],[(17,[17],[]),(43,[43],[]),(54,[54,2,9,10],[]),(63,[63],[])],[]⟩
  | 73 => Tab.hints ⟨[],[],[],[],[],[[0,4],[1,2,6,7,8],[5,9,10,11,12,13,14]],[[],[2]],[],[],[]⟩
  | 74 => Tab.hints ⟨[],[],[],[],[],[[0,4],[1,2,6,7,8],[5,9,10,11,12,13,14,15,16,17,18]],[[],[2]],[],[],[]⟩
  | 75 => Tab.hints ⟨[[],[2,3],[2,3]],[],[],[(0,[0,1,2,3,4,5,6,10,11,12,13,14,15,16,17,18,19,20,21,22,23,24,25,26,27])],[],[[0,6],[1,10,11,12],[2,3,13,14,15],[],[16,17,18],[20,21],[22,23,24,25,26]],[[],[],[3]],[(19,[19],[]),(27,[27,8,7,9],[])],[(19,[19,8,7,9],[]),(27,[27],[])],[]⟩
  | 76 => Tab.hints ⟨[],[],[],[],[],[[0],[],[4,5,6],[7,8,9],[10,11,12],[13,14,15],[16,17,18,19],[20,21,22,23],[24,25,26,27],[28,29,30,31],[32,33,34,35],[36,37,38],[1,39,40,41,42],[3,43]],[[],[],[],[],[],[],[],[],[],[],[],[],[1],[3]],[],[],[]⟩
  | 77 => Tab.hints ⟨[],[],[],[],[],[[0],[],[4,5,6],[1,7,8,9],[3,10]],[[],[],[],[1],[3]],[],[],[]⟩
  | 78 => Tab.hints ⟨[[0],[3],[],[],[],[],[0,1]],[],[],[(0,[1,2,5,6,7,8,9,10,11,12,13,14,15,16,17,18,19,20,21,22])],[],[[2],[5,6,7],[],[8,9,10],[12,13],[14,15,16,17,18,19,20,21],[3,22]],[[],[7]],[(11,[11],[])],[(11,[11,4,0],[])],[]⟩
  | 79 => Tab.hints ⟨[[0],[3],[],[],[],[],[0,1]],[],[],[(0,[1,2,5,6,7,8,9,10,11,12,13,14,15,16,17,18,19,20,21,22])],[],[[2],[5,6,7],[],[8,9,10],[12,13],[14,15,16,17,18,19,20,21],[3,22]],[[],[7]],[(11,[11],[])],[(11,[11,4,0],[])],[]⟩
  | 80 => Tab.hints ⟨[[0]],[[],[],[],[],[],[3]],[],[(0,[0,3,4,5,9,10,11,12,13,14,15,16,17,18,19,20])],[(0,[5])],[[0],[],[10,11],[12,13],[14],[5,16,17,18,19],[20]],[[],[],[],[],[],[5]],[(9,[9],[]),(15,[15],[])],[(9,[9,8,2,1,6,7],[]),(15,[15,5],[5])],[]⟩
  | 81 => Tab.hints ⟨[[],[],[1],[],[],[0]],[],[],[],[],[[0,7],[10,11,12,13,14,15],[17,18],[1,3,9,19,20,21,22,23,24],[25,26,27,28,29,30,31],[33],[2,8,34,35,36,37,38]],[[],[],[],[3],[],[],[8]],[(16,[16,2,1,3],[3]),(32,[32,2,8],[8])],[(16,[16],[]),(32,[32],[])],[]⟩
  | 82 => Tab.hints ⟨[[],[4]],[],[],[],[],[[1],[0,2,3,4,11,12,13,14,15,16,17,18,19,20,21,22,23]],[],[(10,[10],[])],[(10,[10,0,2,3,4],[])],[]⟩
  | 83 => Tab.hints ⟨[],[],[],[],[],[[0,4],[1,2,6,7,8],[5,9,10,11,12,13,14]],[[],[2]],[],[],[]⟩
  | 84 => Tab.hints ⟨[[4,5]],[],[],[],[],[[0,1,4,5,6,7,8,9,10,11,12]],[],[],[],[]⟩
  | 85 => Tab.hints ⟨[],[],[],[],[],[[0,4],[1,2,6,7,8],[5,9,10,11,12,13,14,15,16,17,18]],[[],[2]],[],[],[]⟩
  | 86 => Tab.hints ⟨[],[[],[],[4]],[],[],[],[[0,6],[2,8,9,10],[1,3,7,11,12,13,14,15]],[[],[],[3,7]],[],[],[]⟩
  | 87 => Tab.hints ⟨[],[],[],[],[],[[0,2,6],[9,10],[1,3,5,8,12,13,14,15,16,17,18,19],[7,20,21,22],[23,24],[5,26,27],[1,28]],[[],[],[3,5],[7],[],[5]],[(11,[11],[]),(25,[25,1],[])],[(11,[11,3],[3]),(25,[25,5],[5])],[]⟩
  | 88 => Tab.hints ⟨[],[],[],[],[],[[0,1,4],[5,6,7,8],[],[10,11,12,13],[],[15,16,17,18],[],[20,21,22,23],[],[25,26,27,28,29],[],[31,32,33,34,35],[],[37,38,39,40,41],[],[43,44,45,46,47],[],[49,50,51,52,53],[],[55,56,57,58],[],[2,3,60,61,62,63,64]],[[],[],[],[],[],[],[],[],[],[],[],[],[],[],[],[],[],[],[],[],[],[2,3]],[(9,[9,2,3],[2,3]),(14,[14,3,2],[2,3]),(19,[19,2,3],[2,3]),(24,[24,3,2],[2,3]),(30,[30,2,3],[2,3]),(36,[36,3,2],[2,3]),(42,[42,2,3],[2,3]),(48,[48,3,2],[2,3]),(54,[54,2,3],[2,3]),(59,[59,3,2],[2,3]),(65,[65],[])],[(9,[9],[]),(14,[14],[]),(19,[19],[]),(24,[24],[]),(30,[30],[]),(36,[36],[]),(42,[42],[]),(48,[48],[]),(54,[54],[]),(59,[59],[]),(65,[65],[])],[]⟩
  | 89 => Tab.hints ⟨[],[],[],[],[],[[0,1,4],[5,6,7,8],[],[2,3,10,11,12,13]],[[],[],[],[2,3]],[(9,[9,3,2],[2,3]),(14,[14],[])],[(9,[9],[]),(14,[14],[])],[]⟩
  | 90 => Tab.hints ⟨[],[],[],[(0,[2,3,4,6,7,8,9,10,11,12,13,14,15,16,17,18,19,20,21,22,23,24,25,26])],[],[[4],[6,7,8,9],[],[],[11,12,13],[15,16],[17,18,19,20,21,22,23,24,25]],[],[(10,[10,0,1],[]),(14,[14],[]),(26,[26,0,1,5],[])],[(10,[10],[]),(14,[14,0,1,5],[]),(26,[26],[])],[]⟩
  | 91 => Tab.hints ⟨[],[],[],[(0,[2,3,4,6,7,8,9,10,11,12,13,14,15,16,17,18,19,20,21,22,23,24,25,26])],[],[[4],[6,7,8,9],[],[],[11,12,13],[15,16],[17,18,19,20,21,22,23,24,25]],[],[(10,[10,0,1],[]),(14,[14],[]),(26,[26,0,1,5],[])],[(10,[10],[]),(14,[14,0,1,5],[]),(26,[26],[])],[]⟩
  | 92 => Tab.hints ⟨[],[],[],[(0,[2,3,4,6,7,8,9,10,11,12,13,14,15,16,17,18,19])],[],[[4],[],[6,7,8],[10,11],[12,13,14,15,16],[17,18],[1,19]],[],[(9,[9],[])],[(9,[9,5,0],[])],[]⟩
  | 93 => Tab.hints ⟨[],[],[],[(0,[2,3,4,6,7,8,9,10,11,12,13,14,15,16,17,18,19,20,21,22,23,24,25,26,27,28,29,30,31,32,33,34,35,36,37,38,39,40,41,42,43,44,45,46,47,48,49,50,51,52,53,54,55,56,57,58,59,60])],[],[[4],[],[6,7,8],[10,11],[12,13,14,15,16,17],[18,19],[20,21,22,23,24,25],[26,27],[28,29,30,31,32,33,34],[35,36,37,38,39,40,41],[42,43],[44,45,46,47,48,49,50],[51,52],[53,54,55,56,57,58,59],[1,60]],[],[(9,[9],[])],[(9,[9,5,0],[])],[]⟩
  | 94 => Tab.hints ⟨[],[],[],[(0,[2,3,4,6,7,8,9,10,11,12,13,14,15,16,17,18,19,20,21,22,23,24,25,26,27,28,29,30,31,32,33,34,35,36,37,38,39,40,41,42,43,44,45,46,47,48,49,50,51,52,53,54,55,56,57,58,59,60,61,62,63,64,65,66,67,68,69,70,71,72,73,74,75,76,77,78,79,80,81,82,83,84,85,86,87,88,89,90,91,92,93,94,95])],[],[[4],[],[6,7,8],[10,11],[12,13,14,15,16,17],[18,19],[20,21,22,23,24,25],[26,27],[28,29,30,31,32,33,34],[35,36],[37,38,39,40,41,42,43],[44,45],[46,47,48,49,50,51,52],[53,54],[55,56,57,58,59,60],[61,62],[63,64,65,66,67,68,69],[70,71],[72,73,74,75,76,77,78,79],[80,81,82,83,84,85,86,87],[88,89,90,91,92,93,94],[1,95]],[],[(9,[9],[])],[(9,[9,5,0],[])],[]⟩
  | 95 => Tab.hints ⟨[],[],[],[(0,[2,3,4,6,7,8,9,10,11,12,13,14,15,16,17,18,19,20,21,22,23,24,25,26,27,28,29,30,31,32,33,34,35])],[],[[4],[],[6,7,8],[10,11],[12,13,14,15,16,17],[18,19],[20,21,22,23,24,25],[26,27],[28,29,30,31,32,33,34],[1,35]],[],[(9,[9],[])],[(9,[9,5,0],[])],[]⟩
  | 96 => Tab.hints ⟨[],[],[],[(0,[2,3,4,6,7,8,9,10,11,12,13,14,15,16,17,18,19,20,21,22,23,24,25,26,27,28,29,30,31,32,33,34,35,36,37,38,39,40,41])],[],[[4],[],[6,7,8],[10,11],[12,13,14,15,16],[17,18],[19,20,21,22,23,24],[25,26],[27,28,29,30,31,32,33],[34,35,36,37,38,39,40],[1,41]],[],[(9,[9],[])],[(9,[9,5,0],[])],[]⟩
  | 118 => Tab.hints ⟨[[],[],[],[0]],[[],[],[],[2]],[],[],[],[[1,4],[5,6],[],[0,3,8,9,10]],[[],[],[],[3]],[(7,[7,3,0],[3])],[(7,[7],[])],[]⟩
  | 123 => Tab.hints ⟨[],[],[],[(0,[2,3,4,6,7,8,9,10,11,12,13,14,15,16,17,18,19,20,21,22,23,24,25,26,27])],[],[[4],[6,7,8,9],[10],[],[],[12,13,14],[16,17],[18,19,20,21,22,23,24],[25],[],[1,27]],[],[(11,[11,1,0],[]),(15,[15],[]),(26,[26,1,0,5],[])],[(11,[11],[]),(15,[15,0,5],[]),(26,[26],[])],[]⟩
  | 124 => Tab.hints ⟨[],[],[],[(0,[2,3,4,6,7,8,9,10,11,12,13,14,15,16,17,18,19,20,21,22,23,24,25,26])],[],[[4],[6,7,8,9],[10],[],[],[12,13,14],[16,17],[18,19,20,21,22,23],[24],[],[1,26]],[],[(11,[11,0,1],[]),(15,[15],[]),(25,[25,0,1,5],[])],[(11,[11],[]),(15,[15,0,5],[]),(25,[25],[])],[]⟩
  | 125 => Tab.hints ⟨[],[],[],[(0,[2,3,4,6,7,8,9,10,11,12,13,14,15,16,17,18,19,20,21,22,23,24,25,26])],[],[[4],[6,7,8,9],[10],[],[],[12,13,14],[16,17],[18,19,20,21,22,23],[24],[],[1,26]],[],[(11,[11,0,1],[]),(15,[15],[]),(25,[25,0,1,5],[])],[(11,[11],[]),(15,[15,0,5],[]),(25,[25],[])],[]⟩
  | 126 => Tab.hints ⟨[],[],[],[(0,[2,3,4,6,7,8,9,10,11,12,13,14,15,16,17,18,19,20,21,22,23,24,25,26])],[],[[4],[6,7,8,9],[10],[],[],[12,13,14],[16,17],[18,19,20,21,22,23],[24],[],[1,26]],[],[(11,[11,0,1],[]),(15,[15],[]),(25,[25,0,1,5],[])],[(11,[11],[]),(15,[15,0,5],[]),(25,[25],[])],[]⟩
  | 127 => Tab.hints ⟨[],[],[],[],[],[[0,4],[5,6,7,8,9],[10],[],[2,12,13,14,15],[16],[],[1,18]],[[],[],[],[],[2]],[(11,[11,1,2],[2]),(17,[17,1],[])],[(11,[11],[]),(17,[17],[])],[]⟩
  | 128 => Tab.hints ⟨[],[],[],[],[],[[0,4],[5,6,7,8,9],[10],[],[2,12,13,14,15],[16],[],[1,18]],[[],[],[],[],[2]],[(11,[11,1,2],[2]),(17,[17,1],[])],[(11,[11],[]),(17,[17],[])],[]⟩
  | 129 => Tab.hints ⟨[],[],[],[],[],[[0,4],[6,7,8],[9],[2,5,11,12,13,14,15,16],[1,17]],[[],[],[],[2]],[(10,[10,1],[]),(18,[18],[])],[(10,[10,2,5],[2]),(18,[18],[])],[]⟩
  | 130 => Tab.hints ⟨[[1],[1],[],[],[0,1],[],[],[],[],[],[],[],[0,5],[0,1,2]],[],[],[(0,[0,3,4,6,9,10,11,12,13,14,15,16,17,18,19,20,21,22,23,24,25,26,27,28,29,30,31,32,33,34,35,36,37,38,39,40,41,42,43,44,45,46,47,48,49,50,51,52,53,54,55,56,57,58,59,60,61,62,63,64,65,66,67,68,69,70,71,72,73,74,75])],[(0,[9])],[[0,4],[10],[11,12,13],[14],[5,16],[6,17,18,19,20,21],[],[22,23,24,25],[27,28],[29,30,31,32,33],[34,35],[37,38,39,40,41,42,43,44,45,46,47,48,49,50,51,52,53,54,55,56,57,58,59,60,61,62,63,64,65,66,67],[9,69,70,71,72,73],[5,74,75]],[[],[],[],[],[],[],[],[],[],[],[],[],[9]],[(15,[15,2,1,6],[2]),(26,[26],[]),(36,[36,9],[9]),(68,[68],[])],[(15,[15],[]),(26,[26,8,1,7,2],[2,7]),(36,[36],[]),(68,[68,9],[9])],[]⟩
  | 131 => Tab.hints ⟨[],[],[],[(0,[2,3,4,6,7,8,9,10,11,12,13,14,15,16,17])],[],[[4],[],[6,7,8],[10,11],[12,13,14,15,16]],[],[(9,[9],[]),(17,[17,0,1,5],[])],[(9,[9,0,1,5],[]),(17,[17],[])],[]⟩
  | 132 => Tab.hints ⟨[[0],[3],[],[],[],[],[0,1]],[],[],[(0,[1,2,5,6,7,8,9,10,11,12,13,14,15,16,17,18,19,20,21])],[],[[2],[5,6,7],[],[8,9,10],[12,13],[14,15,16,17,18,19,20],[3,21]],[[],[7]],[(11,[11],[])],[(11,[11,4,0],[])],[]⟩
  | 133 => Tab.hints ⟨[[0],[3],[],[],[],[],[0,1]],[],[],[(0,[1,2,5,6,7,8,9,10,11,12,13,14,15,16,17,18,19,20,21,22])],[],[[2],[5,6,7],[],[8,9,10],[12,13],[14,15,16,17,18,19,20,21],[3,22]],[[],[7]],[(11,[11],[])],[(11,[11,4,0],[])],[]⟩
  | 134 => Tab.hints ⟨[[0],[3],[],[],[],[],[0,1]],[],[],[(0,[1,2,5,6,7,8,9,10,11,12,13,14,15,16,17,18,19,20,21,22])],[],[[2],[5,6,7],[],[8,9,10],[12,13],[14,15,16,17,18,19,20,21],[3,22]],[[],[7]],[(11,[11],[])],[(11,[11,4,0],[])],[]⟩
  | 135 => Tab.hints ⟨[[0],[3],[],[],[],[],[0,1]],[],[],[(0,[1,2,5,6,7,8,9,10,11,12,13,14,15,16,17,18,19,20,21,22])],[],[[2],[5,6,7],[],[8,9,10],[12,13],[14,15,16,17,18,19,20,21],[3,22]],[[],[7]],[(11,[11],[])],[(11,[11,4,0],[])],[]⟩
  | 136 => Tab.hints ⟨[],[],[],[],[],[[0],[],[4,5,6],[1,7,8,9,10],[3,11]],[[],[],[],[1],[3]],[],[],[]⟩
  | 137 => Tab.hints ⟨[],[],[],[],[],[[0],[],[4,5,6],[1,7,8,9,10],[3,11]],[[],[],[],[1],[3]],[],[],[]⟩
  | 138 => Tab.hints ⟨[[],[],[],[0]],[[],[3]],[],[],[],[[0,1,5],[3,7,8,9,10],[11],[13],[2,6,14,15,16,17,18]],[[],[3],[],[],[2]],[(12,[12,6,2],[2])],[(12,[12],[])],[]⟩
  | 139 => Tab.hints ⟨[],[],[],[],[],[[0,4],[2,7,8,9,10,11,12],[6,14],[5,15,16],[1,18,19]],[[],[2],[],[5]],[(13,[13,1],[]),(17,[17],[])],[(13,[13,5],[5]),(17,[17],[])],[]⟩
  | 140 => Tab.hints ⟨[[1],[],[1],[],[],[],[],[],[],[],[],[],[],[],[],[0,5],[],[],[0,2]],[[],[],[],[],[],[],[],[],[],[],[],[],[],[],[],[],[],[1],[1]],[],[(0,[0,2,3,4,6,8,9,10,11,12,13,14,15,16,17,18,22,23,24,25,26,27,28,29,30,31,32,33,34,35,36,37,38,39,40,41,42,43,44,45,46,47,48,49,50,51,52,53,54,55,56,57,58,59,60,61])],[(0,[9])],[[0,4],[6,11,12,13,14,15,16],[17],[2,18],[],[23,24],[],[25],[28],[29,30,31,32],[34],[35,36,37,38],[26,40],[41,42,43,44,45],[10,46,47,48,49,50],[9,52,53,54,55,56],[57],[58,59],[7,60,61]],[],[(22,[22],[]),(27,[27,26,10],[]),(33,[33,10,26],[]),(39,[39,10],[]),(51,[51],[])],[(22,[22,21,1,5,19,20],[]),(27,[27],[]),(33,[33],[]),(39,[39],[]),(51,[51,9],[])],[(2,[8199]),(4194321,[16391]),(1048582,[4097]),(1048595,[73729])]⟩
  | 141 => Tab.hints ⟨[[],[0]],[[],[2]],[],[],[],[[4],[0,1,5,6,7,8]],[],[],[],[]⟩
  | 142 => Tab.hints ⟨[],[],[],[],[],[[3],[0,1,4,5,6]],[],[],[],[]⟩
  | 143 => Tab.hints ⟨[[],[0]],[],[],[],[],[[4],[0,1,5,6,7,8]],[],[],[],[]⟩
  | 144 => Tab.hints ⟨[],[],[],[(0,[2,3,4,6,7,8,9,10,11,12,13,14,15,16,17,18,19,20,21,22,23,24,25])],[],[[4],[6,7,8,9],[],[],[11,12,13],[15,16],[17,18,19,20,21,22,23,24]],[],[(10,[10,0,1],[]),(14,[14],[]),(25,[25,0,1,5],[])],[(10,[10],[]),(14,[14,0,1,5],[]),(25,[25],[])],[]⟩
  | 145 => Tab.hints ⟨[],[],[],[(0,[2,3,4,6,7,8,9,10,11,12,13,14,15,16,17,18,19,20,21,22,23,24,25,26])],[],[[4],[6,7,8,9],[],[],[11,12,13],[15,16],[17,18,19,20,21,22,23,24,25]],[],[(10,[10,0,1],[]),(14,[14],[]),(26,[26,0,1,5],[])],[(10,[10],[]),(14,[14,0,1,5],[]),(26,[26],[])],[]⟩
  | 146 => Tab.hints ⟨[],[],[],[(0,[2,3,4,6,7,8,9,10,11,12,13,14,15,16,17,18,19,20,21,22,23,24,25,26])],[],[[4],[6,7,8,9],[],[],[11,12,13],[15,16],[17,18,19,20,21,22,23,24,25]],[],[(10,[10,0,1],[]),(14,[14],[]),(26,[26,0,1,5],[])],[(10,[10],[]),(14,[14,0,1,5],[]),(26,[26],[])],[]⟩
  | 147 => Tab.hints ⟨[],[],[],[(0,[2,3,4,6,7,8,9,10,11,12,13,14,15,16,17,18,19,20,21,22,23,24,25,26])],[],[[4],[6,7,8,9],[],[],[11,12,13],[15,16],[17,18,19,20,21,22,23,24,25]],[],[(10,[10,0,1],[]),(14,[14],[]),(26,[26,0,1,5],[])],[(10,[10],[]),(14,[14,0,1,5],[]),(26,[26],[])],[]⟩
  | 148 => Tab.hints ⟨[],[],[],[],[],[[0,1,4],[5,6,7,8],[],[2,3,10,11,12,13,14]],[[],[],[],[2,3]],[(9,[9,3,2],[2,3]),(15,[15],[])],[(9,[9],[]),(15,[15],[])],[]⟩
  | 149 => Tab.hints ⟨[],[],[],[],[],[[0,1,4],[5,6,7,8],[],[2,3,10,11,12,13,14]],[[],[],[],[2,3]],[(9,[9,3,2],[2,3]),(15,[15],[])],[(9,[9],[]),(15,[15],[])],[]⟩
  | 159 => Tab.hints ⟨[],[[],[],[],[],[5]],[],[(0,[2,3,4,5,6,9,10,11,12,13,14,15,16,17,18])],[],[[4],[6],[],[10],[11,12,13,14,15],[5,17],[18]],[],[(9,[9],[]),(16,[16,7,1,0,8],[])],[(9,[9,7,1,0,8],[]),(16,[16,5],[])],[]⟩
  | 166 => Tab.hints ⟨[],[],[],[],[],[[0,3],[1,2,4,5,6,7]],[[],[2]],[],[],[]⟩
  | 169 => Tab.hints ⟨[],[],[],[],[],[[0,4],[5,6,7,8,9],[10],[],[12,13,14,15,16],[17],[],[19,20,21,22],[23],[],[25,26,27,28],[29],[],[2,31,32,33,34],[35],[],[1,37]],[[],[],[],[],[],[],[],[],[],[],[],[],[],[2]],[(11,[11,2,1],[2]),(18,[18,2,1],[2]),(24,[24,2,1],[2]),(30,[30,1,2],[2]),(36,[36,1],[])],[(11,[11],[]),(18,[18],[]),(24,[24],[]),(30,[30],[]),(36,[36],[])],[]⟩
  | 170 => Tab.hints ⟨[],[],[],[],[],[[0,4],[5,6,7,8,9],[10],[],[12,13,14,15,16],[17],[],[19,20,21,22],[23],[],[25,26,27,28],[29],[],[2,31,32,33,34],[35],[],[1,37]],[[],[],[],[],[],[],[],[],[],[],[],[],[],[2]],[(11,[11,2,1],[2]),(18,[18,2,1],[2]),(24,[24,2,1],[2]),(30,[30,1,2],[2]),(36,[36,1],[])],[(11,[11],[]),(18,[18],[]),(24,[24],[]),(30,[30],[]),(36,[36],[])],[]⟩
  | 171 => Tab.hints ⟨[],[],[],[],[],[[0,4],[5,6,7,8,9],[10],[],[12,13,14,15,16],[17],[],[2,19,20,21,22],[23],[],[1,25]],[[],[],[],[],[],[],[],[2]],[(11,[11,2,1],[2]),(18,[18,1,2],[2]),(24,[24,1],[])],[(11,[11],[]),(18,[18],[]),(24,[24],[])],[]⟩
  | 172 => Tab.hints ⟨[],[],[],[],[],[[0,4],[5,6,7,8,9],[10],[],[12,13,14,15],[16],[],[2,18,19,20,21],[22],[],[1,24]],[[],[],[],[],[],[],[],[2]],[(11,[11,2,1],[2]),(17,[17,1,2],[2]),(23,[23,1],[])],[(11,[11],[]),(17,[17],[]),(23,[23],[])],[]⟩
  | 173 => Tab.hints ⟨[],[],[],[],[],[[2],[0,3,4,5,6,7,8,9,10,11,12,13,14,15,16,17,18,19,20]],[],[],[],[]⟩
  | 174 => Tab.hints ⟨[],[],[],[],[],[[0],[],[4,5,6],[7,8,9],[10,11,12,13],[14,15,16,17],[1,18,19,20,21],[3,22]],[[],[],[],[],[],[],[1],[3]],[],[],[]⟩
  | 175 => Tab.hints ⟨[],[],[],[],[],[[0],[],[4,5,6],[7,8,9],[10,11,12,13],[14,15,16],[17,18,19,20],[1,21,22,23,24],[3,25]],[[],[],[],[],[],[],[],[1],[3]],[],[],[]⟩
  | 176 => Tab.hints ⟨[],[],[],[],[],[[0],[],[4,5,6],[7,8,9],[1,10,11,12,13],[3,14]],[[],[],[],[],[1],[3]],[],[],[]⟩
  | 177 => Tab.hints ⟨[],[],[],[],[],[[0],[],[4,5,6],[7,8,9],[10,11,12,13],[1,14,15,16,17],[3,18]],[[],[],[],[],[],[1],[3]],[],[],[]⟩
  | 178 => Tab.hints ⟨[],[[],[],[],[],[5]],[],[(0,[2,3,4,5,6,9,10,11,12,13,14,15,16,17,18])],[],[[4],[6],[],[10],[11,12,13,14,15],[5,17],[18]],[],[(9,[9],[]),(16,[16,7,1,0,8],[])],[(9,[9,7,1,0,8],[]),(16,[16,5],[])],[]⟩
  | 179 => Tab.hints ⟨[],[],[],[],[],[[0,3],[1,2,4,5,6,7]],[[],[2]],[],[],[]⟩
  | 180 => Tab.hints ⟨[],[],[],[],[],[[2],[0],[5],[6],[7],[8],[9],[4]],[],[(4,[],[])],[(4,[4],[])],[]⟩
  | 181 => Tab.hints ⟨[],[[],[],[],[],[5]],[],[(0,[2,3,4,5,6,9,10,11,12,13,14,15,16,17,18])],[],[[4],[6],[],[10],[11,12,13,14,15],[5,17],[18]],[],[(9,[9],[]),(16,[16,7,1,0,8],[])],[(9,[9,7,1,0,8],[]),(16,[16,5],[])],[]⟩
  | 182 => Tab.hints ⟨[],[],[],[(0,[2,3,4,5,6,9,10,11,12,13,14,15,16,17,18])],[],[[4],[6],[],[10],[11,12,13,14,15],[5,17],[18]],[],[(9,[9],[]),(16,[16,7,1,0,8],[])],[(9,[9,7,1,0,8],[]),(16,[16,5],[])],[]⟩
  | 183 => Tab.hints ⟨[],[],[],[],[],[[0,1,4],[5,6,7,8],[],[10,11,12,13],[],[15,16,17,18,19],[],[21,22,23,24,25],[],[2,3,27,28,29,30,31]],[[],[],[],[],[],[],[],[],[],[2,3]],[(9,[9,2,3],[2,3]),(14,[14,3,2],[2,3]),(20,[20,2,3],[2,3]),(26,[26,3,2],[2,3]),(32,[32],[])],[(9,[9],[]),(14,[14],[]),(20,[20],[]),(26,[26],[]),(32,[32],[])],[]⟩
  | 184 => Tab.hints ⟨[],[],[],[],[],[[0,1,4],[5,6,7,8],[],[10,11,12,13],[],[15,16,17,18,19],[],[21,22,23,24],[],[26,27,28,29,30],[],[2,3,32,33,34,35,36]],[[],[],[],[],[],[],[],[],[],[],[],[2,3]],[(9,[9,3,2],[2,3]),(14,[14,2,3],[2,3]),(20,[20,3,2],[2,3]),(25,[25,2,3],[2,3]),(31,[31,3,2],[2,3]),(37,[37],[])],[(9,[9],[]),(14,[14],[]),(20,[20],[]),(25,[25],[]),(31,[31],[]),(37,[37],[])],[]⟩
  | 185 => Tab.hints ⟨[],[],[],[],[],[[0,1,4],[5,6,7,8],[],[10,11,12,13],[],[2,3,15,16,17,18,19]],[[],[],[],[],[],[2,3]],[(9,[9,2,3],[2,3]),(14,[14,3,2],[2,3]),(20,[20],[])],[(9,[9],[]),(14,[14],[]),(20,[20],[])],[]⟩
  | 186 => Tab.hints ⟨[],[],[],[],[],[[0,1,4],[5,6,7,8],[],[10,11,12,13],[],[15,16,17,18,19],[],[2,3,21,22,23,24,25]],[[],[],[],[],[],[],[],[2,3]],[(9,[9,3,2],[2,3]),(14,[14,2,3],[2,3]),(20,[20,3,2],[2,3]),(26,[26],[])],[(9,[9],[]),(14,[14],[]),(20,[20],[]),(26,[26],[])],[]⟩
  | 204 => Tab.hints ⟨[],[],[],[],[],[[0,4],[5,6,7,8,9],[10],[],[2,12,13,14,15,16],[17],[],[1,19]],[[],[],[],[],[2]],[(11,[11,2,1],[2]),(18,[18,1],[])],[(11,[11],[]),(18,[18],[])],[]⟩
  | 205 => Tab.hints ⟨[],[],[],[(0,[2,3,4,6,7,8,9,10,11,12,13,14,15,16,17,18,19,20,21,22,23,24,25,26])],[],[[4],[6,7,8,9],[10],[],[],[12,13,14],[16,17],[18,19,20,21,22,23],[24],[],[1,26]],[],[(11,[11,0,1],[]),(15,[15],[]),(25,[25,0,1,5],[])],[(11,[11],[]),(15,[15,0,5],[]),(25,[25],[])],[]⟩
  | 206 => Tab.hints ⟨[],[],[],[],[],[[0],[],[4,5,6],[1,7,8,9],[3,10]],[[],[],[],[1],[3]],[],[],[]⟩
  | 207 => Tab.hints ⟨[[0],[3],[],[],[],[],[0,1]],[],[],[(0,[1,2,5,6,7,8,9,10,11,12,13,14,15,16,17,18,19,20,21,22])],[],[[2],[5,6,7],[],[8,9,10],[12,13],[14,15,16,17,18,19,20,21],[3,22]],[[],[7]],[(11,[11],[])],[(11,[11,4,0],[])],[]⟩
  | 208 => Tab.hints ⟨[],[],[],[],[],[[0,1,4],[5,6,7,8],[],[2,3,10,11,12,13]],[[],[],[],[2,3]],[(9,[9,3,2],[2,3]),(14,[14],[])],[(9,[9],[]),(14,[14],[])],[]⟩
  | 209 => Tab.hints ⟨[],[],[],[(0,[2,3,4,6,7,8,9,10,11,12,13,14,15,16,17,18,19,20,21,22,23,24,25,26])],[],[[4],[6,7,8,9],[],[],[11,12,13],[15,16],[17,18,19,20,21,22,23,24,25]],[],[(10,[10,0,1],[]),(14,[14],[]),(26,[26,0,1,5],[])],[(10,[10],[]),(14,[14,0,1,5],[]),(26,[26],[])],[]⟩
  | _ => Tab.hints aP1
end Go.Vs
end
section
namespace Go.Vs
variable {m : Bool} {β : Type}
@[simp] theorem aD (x : Option β) : aA true x = x := rfl
@[simp] theorem aOH (x : Option β) : aA false x = none := rfl
@[simp] theorem aE (x y : Option β) : aC true x y = x := rfl
@[simp] theorem aF (x y : Option β) : aC false x y = y := rfl
theorem nA (b : Bool) (x y : Option β) : aC b x y = if b = true then x else y := by cases b <;> rfl
@[simp] theorem aPa (b : Bool) (k : Bool → Option β) : lL (.leaf (.bool b) : SV m) k = k b := rfl
@[simp] theorem aT (l : aB m) (k : aB m → Option β) : aL (.leaf l) k = k l := rfl
@[simp] theorem lP (c : Fl m) (es : List (List (aB m))) (k : Fl m → List (List (aB m)) → Option β) : iR (.leaf (.sl c es)) k = k c es := rfl
@[simp] theorem iO (e : TypeId) (es : List (List (aB m))) (k : List (List (aB m)) → Option β) : kX e (.own (some e) es) k = k es := by simp [kX]
@[simp] theorem eJ (cs : List (aB m)) (k : List (aB m) → Option β) : eA (.agg cs) k = k cs := rfl
@[simp] theorem lU (vs : List (SV m)) (k : List (SV m) → Option β) : lX (.tup vs) k = k vs := rfl
@[simp] theorem aPr (k : Option β) : aDN (.nilface : SV m) k = k := rfl
@[simp] theorem bO (k0 : IntKind) (n : Int) (k : Int → Option β) : cL k0 (.int k0 n : aB m) k = k n := by simp [cL]
@[simp] theorem bR (b : Bool) (k : Bool → Option β) : cU (.bool b : aB m) k = k b := rfl
@[simp] theorem aZ (s : ByteArray) (k : ByteArray → Option β) : bM (.str s : aB m) k = k s := rfl
@[simp] theorem cX (c : Fl m) (es : List (List (aB m))) (k : Fl m → List (List (aB m)) → Option β) : slK (.sl c es) k = k c es := rfl
@[simp] theorem bP (l : aB m) (e : List (aB m)) (k : aB m → Option β) : atK (l :: e) 0 k = k l := rfl
@[simp] theorem bW (l : aB m) (e : List (aB m)) (n : Nat) (k : aB m → Option β) : atK (l :: e) (n + 1) k = atK e n k := rfl
@[simp] theorem dK (e : List (aB m)) (k : List (aB m) → Option β) : gC e k = k e := rfl
@[simp] theorem jP (v : SV m) (r : List (SV m)) (k : SV m → List (SV m) → Option β) : jL (v :: r) k = k v r := rfl
@[simp] theorem jW (k : Option β) : kN ([] : List (SV m)) k = k := rfl
@[simp] theorem pC (v : List (SV m)) (r : List (List (SV m))) (k : List (SV m) → List (List (SV m)) → Option β) : qW (v :: r) k = k v r := rfl
@[simp] theorem pO (k : Option β) : kQ ([] : List (List (SV m))) k = k := rfl
@[simp] theorem aPH (l : SV m) (e : List (SV m)) (k : SV m → Option β) : aDl (l :: e) 0 k = k l := rfl
@[simp] theorem aPG (l : SV m) (e : List (SV m)) (n : Nat) (k : SV m → Option β) : aDl (l :: e) (n + 1) k = aDl e n k := rfl
@[simp] theorem aPT (a b : Fl false) : (a = b) = True := eq_true (by cases a; cases b; rfl)
theorem pI {z : Int} (h1 : -9223372036854775808 ≤ z) (h2 : z ≤ 9223372036854775807) : IntKind.i64.wrap z = z := by
  have e : IntKind.i64.wrap z = if z % 18446744073709551616 ≥ 9223372036854775808 then z % 18446744073709551616 - 18446744073709551616 else z % 18446744073709551616 := by
    simp [IntKind.wrap, IntKind.signed, IntKind.bits]
  rw [e]
  split <;> omega
theorem bS {n : Nat} {Q : Nat → Prop} (hn : Q n) (hs : ∀ i, i < n → Q (i + 1) → Q i) : ∀ i, i ≤ n → Q i := by
  intro i hi
  obtain ⟨k, rfl⟩ : ∃ k, n = i + k := ⟨n - i, by omega⟩
  induction k generalizing i with
  | zero => exact hn
  | succ k ih => exact hs i (by omega) (ih (i + 1) (by rw [show i + 1 + k = i + (k + 1) by omega]; exact hn) (by intro j hj; exact hs j (by omega)) (by omega))
def eN (l : List (List (aB m))) (i : Nat) (z : List (SV m)) : List (SV m) := (l.take i).flatten.map SV.leaf ++ z
theorem sU {α : Type} {z : Nat} : ∀ {l : List (List α)}, (∀ e ∈ l, e.length = z) → l.flatten.length = l.length * z
  | [], _ => by simp
  | e :: l, h => by
    have h1 := h e (by simp)
    have h2 := sU (l := l) (fun e he => h e (by simp [he]))
    rw [List.flatten_cons, List.length_append, h1, h2, List.length_cons, Nat.add_mul]; omega
theorem eB {l : List (List (aB m))} {k i : Nat} {z : List (SV m)} (h : ∀ e ∈ l, e.length = k) (hi : i ≤ l.length) : (eN l i z).length = i * k + z.length := by
  unfold eN
  rw [List.length_append, List.length_map, sU (z := k) (fun e he => h e (List.mem_of_mem_take he)), List.length_take, Nat.min_eq_left hi]
theorem lH {l : List (List (aB m))} {k i : Nat} {z : List (SV m)} (h : ∀ e ∈ l, e.length = k) (hi : i < l.length) :
    hM (eN l i z) (i * k) (l[i].map SV.leaf) = eN l (i + 1) (z.drop k) := by
  have hl : ((l.take i).flatten.map (SV.leaf (m := m))).length = i * k := by
    rw [List.length_map, sU (z := k) (fun e he => h e (List.mem_of_mem_take he)), List.length_take, Nat.min_eq_left (Nat.le_of_lt hi)]
  have hk : (l[i].map (SV.leaf (m := m))).length = k := by rw [List.length_map]; exact h _ (List.getElem_mem hi)
  unfold hM eN
  rw [hk, List.take_append_of_le_length (by omega), List.take_of_length_le (by omega), ← hl, List.drop_append, List.drop_of_length_le (by omega)]
  rw [List.take_succ_eq_append_getElem hi]
  simp only [List.flatten_append, List.map_append, List.flatten_cons, List.flatten_nil, List.append_nil, List.append_assoc, List.nil_append, Nat.add_sub_cancel_left]
theorem zW : ∀ l : List (aB m), bX (l.map SV.leaf) = some l
  | [] => rfl
  | a :: l => by simp [bX, asLeaf, zW l]
theorem eU {α : Type} {z : Nat} : ∀ {l : List (List α)}, (∀ e ∈ l, e.length = z) → hU z l.length l.flatten = l
  | [], _ => rfl
  | e :: l, h => by
    have h1 := h e (by simp)
    have h2 := eU (l := l) (fun e he => h e (by simp [he]))
    simp only [List.length_cons, hU, List.flatten_cons, ← h1, List.take_left', List.drop_left']
    rw [h1, h2]
theorem oD {l : List (List (aB m))} {k : Nat} {z : List (SV m)} (h : ∀ e ∈ l, e.length = k) : bX ((eN l l.length z).take (l.length * k)) = some l.flatten := by
  unfold eN
  have hl : (l.flatten.map (SV.leaf (m := m))).length = l.length * k := by rw [List.length_map, sU h]
  rw [List.take_length, List.take_append_of_le_length (by omega), List.take_of_length_le (by omega)]
  exact zW _
end Go.Vs
end
section
namespace Go.Vs
variable {m : Bool} {P : Program} {N : Env} {H : Type} {enc : TypeId × Value → H}
def tP (p : TypeId → List (aB m) → Prop) : List TypeId → List (aB m) → Prop
  | [], ls => ls = []
  | t :: ts, ls => ∃ a b, ls = a ++ b ∧ p t a ∧ tP p ts b
def dY (P : Program) (c : Fl m) : Nat → TypeId → List (aB m) → Prop
  | 0, _, _ => False
  | n + 1, t, ls => match P.underlying t with
    | some .bool => ∃ b, ls = [.bool b]
    | some (.int k) => ∃ z, ls = [.int k z] ∧ (Lit.int k z).wf = true
    | some .string => ∃ s : ByteArray, ls = [.str s] ∧ s.size ≤ maxLen
    | some (.slice e) => ∃ es, ls = [.sl c es] ∧ es.length ≤ maxLen ∧ ∀ x ∈ es, dY P c n e x
    | some (.struct fs) => tP (dY P c n) (fs.toList.map Field.type) ls
    | _ => False
def aN5 (P : Program) (S : List TypeId) : Nat → List Field → Nat → Bool
  | o, [], z => o == z
  | o, f :: fs, z => f.offset == o && S.contains f.type && aN5 P S (o + P.cellsOf f.type) fs z
def aPh (P : Program) (S : List TypeId) (t : TypeId) : Bool := match P.underlying t with
  | some .bool | some (.int _) | some .string => true
  | some (.slice e) => S.contains e && decide (0 < P.cellsOf e)
  | some (.struct fs) => aN5 P S 0 fs.toList (P.cellsOf t)
  | _ => false
def qO (w : World) : Fr := fun g => match w.heap[g]? with | some (.cells c _ _) => c.size | _ => 0
theorem aHG {w : World} {g j : Nat} {v : Value} (h : w.cell? ⟨g, j, none⟩ = some v) : j < qO w g := by
  unfold World.cell? at h
  unfold qO
  simp only at h
  split at h
  · rename_i c e fr hc
    simp only [hc]
    exact (List.getElem?_eq_some_iff.1 (by simpa using h)).1
  · simp at h
theorem aMW {w : World} {base : Nat} {a : Addr} {n : Nat} {cs : List Value} (h : w.cells? base a n = some cs) : cs.length = n ∧ ∀ j v, cs[j]? = some v → w.cell? (a.add j) = some v := by
  unfold World.cells? at h
  split at h
  · refine ⟨by simpa using mapM_some_length h, fun j v hj => ?_⟩
    have hlen : cs.length = n := by simpa using mapM_some_length h
    have hj' : j < n := by rw [← hlen]; exact (List.getElem?_eq_some_iff.1 hj).1
    have := mapM_some_get h j j (by simp [hj'])
    rw [this, hj]
  · simp at h
theorem aOj {w : World} {F : Fr} {base : Nat} {sp : Nat → Bool} {held : Bool} {c : Fl m} {S : List TypeId} {n : Nat}
    (ih : ∀ t cs x, t ∈ S → DataW.trod enc P w base sp held n t cs = some x → ∃ ls : List (aB m), cE w F N ls cs ∧ dY P c n t ls) (cs : List Value) :
    ∀ (fs : List Field) (o : Nat), aN5 P S o fs cs.length = true → (∀ f ∈ fs, ∃ x, DataW.trod enc P w base sp held n f.type ((cs.drop f.offset).take (P.cellsOf f.type)) = some x) →
      ∃ ls : List (aB m), cE w F N ls (cs.drop o) ∧ tP (dY P c n) (fs.map Field.type) ls
  | [], o, h, _ => by
    simp only [aN5, beq_iff_eq] at h
    refine ⟨[], ?_, rfl⟩
    rw [List.drop_of_length_le (by omega)]
    exact cE.nil _ _ _
  | f :: fs, o, h, hx => by
    simp only [aN5, Bool.and_eq_true, beq_iff_eq, List.contains_iff_mem] at h
    obtain ⟨⟨ho, hS⟩, h⟩ := h
    obtain ⟨x, hx0⟩ := hx f (by simp)
    obtain ⟨a, ha, sa⟩ := ih _ _ _ hS hx0
    obtain ⟨b, hb, sb⟩ := aOj ih cs fs _ h fun g hg => hx g (by simp [hg])
    refine ⟨a ++ b, ?_, a, b, rfl, sa, sb⟩
    have := ha.append hb
    rw [ho] at this
    rwa [← List.drop_drop, List.take_append_drop] at this
theorem aEo {w : World} {F : Fr} {base : Nat} {sp : Nat → Bool} {held : Bool} {c : Fl m} (hc1 : ∀ g o, c.Holds N w g o) (hc2 : c.isSoft = false) (hF : ∀ g j v, w.cell? ⟨g, j, none⟩ = some v → j < F g) (hZ : ∀ g, N.Z g = false)
    {S : List TypeId} (hS : S.all (aPh P S) = true) : ∀ (fuel : Nat) (t : TypeId) (cs : List Value) (x : DataW H × List MemPlace), t ∈ S → DataW.trod enc P w base sp held fuel t cs = some x → ∃ ls : List (aB m), cE w F N ls cs ∧ dY P c fuel t ls
  | 0, t, cs, x, _, h => by simp [DataW.trod] at h
  | n + 1, t, cs, x, ht, h => by
    have ih := aEo (c := c) hc1 hc2 hF hZ hS n (w := w) (base := base) (sp := sp) (held := held)
    have hok := List.all_eq_true.1 hS t ht
    unfold aPh at hok
    split at hok
    · rename_i hu
      obtain ⟨b, rfl, _⟩ := DataW.trod_bool hu h
      exact ⟨[.bool b], cE.cons (.bool b) (cE.nil _ _ _), by unfold dY; simp only [hu]; exact ⟨b, rfl⟩⟩
    · rename_i k hu
      obtain ⟨z, rfl, _, hw⟩ := DataW.trod_int hu h
      exact ⟨[.int k z], cE.cons (.int k z) (cE.nil _ _ _), by unfold dY; simp only [hu]; exact ⟨z, rfl, hw⟩⟩
    · rename_i hu
      obtain ⟨s, rfl, _, hs⟩ := DataW.trod_string hu h
      exact ⟨[.str s], cE.cons (.str s) (cE.nil _ _ _), by unfold dY; simp only [hu]; exact ⟨s, rfl, hs⟩⟩
    · rename_i e hu
      have hs : ∀ ls : List (aB m), dY P c (n + 1) t ls ↔ ∃ es, ls = [.sl c es] ∧ es.length ≤ maxLen ∧ ∀ x ∈ es, dY P c n e x := fun ls => by
        conv => lhs; unfold dY
        simp only [hu]
      simp only [hs]
      simp only [Bool.and_eq_true, List.contains_iff_mem, decide_eq_true_eq] at hok
      obtain ⟨heS, hz⟩ := hok
      rcases DataW.trod_slice hu h with ⟨rfl, _⟩ | ⟨a, len, cap, elems, rest, n', hn, rfl, _, _, hlc, hcm, hel, hget, _, _⟩
      · exact ⟨[.sl c []], cE.cons (kK (es := []) (z := 0) (vals := []) (Nat.le_refl _) (by simp) (fun h => by simp at h) (cE.nil _ _ _)) (cE.nil _ _ _), [], rfl, by simp, by simp⟩
      · obtain rfl : n' = n := by omega
        have rows : ∀ k, k ≤ len → ∃ (es : List (List (aB m))) (vals : List Value), es.length = k ∧ (∀ x ∈ es, x.length = P.cellsOf e) ∧ (∀ j v, vals[j]? = some v → w.cell? (a.add j) = some v) ∧ cE w F N es.flatten vals ∧ vals.length = k * P.cellsOf e ∧ ∀ x ∈ es, dY P c n' e x := by
          intro k
          induction k with
          | zero => intro _; exact ⟨[], [], rfl, by simp, by simp, cE.nil _ _ _, by simp, by simp⟩
          | succ k ihk =>
            intro hk
            obtain ⟨es, vals, h1, h2, h3, h4, h5, h6⟩ := ihk (by omega)
            have hg := hget k (by omega)
            have : k < elems.length := by omega
            rw [List.getElem?_eq_getElem this, Option.bind_eq_some_iff] at hg
            obtain ⟨ck, hck, htk⟩ := hg
            obtain ⟨ls, hls, hsh⟩ := ih _ _ _ heS htk
            obtain ⟨hcl, hcc⟩ := aMW hck
            refine ⟨es ++ [ls], vals ++ ck, by simp [h1], ?_, ?_, by simpa using h4.append hls, by rw [List.length_append, h5, hcl, Nat.add_mul]; omega, ?_⟩
            · intro x hx
              rcases List.mem_append.1 hx with hx | hx
              · exact h2 x hx
              · obtain rfl : x = ls := by simpa using hx
                rw [← hls.1, hcl]
            · intro j v hj
              rw [List.getElem?_append] at hj
              split at hj
              · exact h3 j v hj
              · rename_i hge
                have := hcc _ _ hj
                rw [← this]
                congr 1
                have e1 : k * P.cellsOf e + (j - vals.length) = j := by omega
                unfold Addr.add
                by_cases hk0 : k * P.cellsOf e = 0
                · simp only [hk0, if_true]
                  rw [show j - vals.length = j by omega]
                · by_cases hj0 : j - vals.length = 0
                  · simp only [hk0, if_false, hj0, if_true]
                    rw [if_neg (by omega)]
                    congr 1; omega
                  · simp only [hk0, if_false, hj0]
                    rw [if_neg (by omega)]
                    simp only [Addr.mk.injEq, and_true, true_and]; omega
            · intro x hx
              rcases List.mem_append.1 hx with hx | hx
              · exact h6 x hx
              · obtain rfl : x = ls := by simpa using hx
                exact hsh
        obtain ⟨es, vals, h1, h2, h3, h4, h5, h6⟩ := rows len (Nat.le_refl _)
        refine ⟨[.sl c es], cE.cons ?_ (cE.nil _ _ _), es, rfl, by omega, h6⟩
        subst h1
        refine kK hlc h2 (fun hpos => ?_) h4
        have hv0 : 0 < vals.length := by rw [h5]; exact Nat.mul_pos hpos hz
        obtain ⟨g, o, spot⟩ := a
        have hc0 := h3 0 _ (List.getElem?_eq_getElem hv0)
        have hsp : spot = none := by
          cases spot with
          | none => rfl
          | some s =>
            exfalso
            simp only [Addr.add, if_true, World.cell?] at hc0
            split at hc0 <;> simp at hc0
        subst hsp
        have hcell : ∀ j v, vals[j]? = some v → w.cell? ⟨g, o + j, none⟩ = some v := fun j v hj => by
          have := h3 j v hj
          unfold Addr.add at this
          split at this
          · rename_i hj0; rw [hj0]; exact this
          · exact this
        have hlast := hF _ _ _ (hcell (vals.length - 1) _ (List.getElem?_eq_getElem (by omega)))
        exact ⟨g, o, rfl, ⟨hv0, hc1 _ _⟩, by omega, ⟨fun h => by rw [hc2] at h; simp at h, fun h => by rw [hZ] at h; simp at h⟩, hcell⟩
    · rename_i fs hu
      have hs : ∀ ls : List (aB m), dY P c (n + 1) t ls ↔ tP (dY P c n) (fs.toList.map Field.type) ls := fun ls => by
        conv => lhs; unfold dY
        simp only [hu]
      simp only [hs]
      obtain ⟨xs, n', hn, _, hl, hlen, hf⟩ := DataW.trod_struct hu h
      obtain rfl : n' = n := by omega
      rw [← hl] at hok
      have := aOj (c := c) ih cs fs.toList 0 hok fun f hfm => by
        obtain ⟨i, hi, rfl⟩ := List.getElem_of_mem hfm
        have hi' : i < fs.size := by simpa using hi
        have := hf i fs[i] (Array.getElem?_eq_getElem hi')
        rw [List.getElem?_eq_getElem (by omega)] at this
        exact ⟨_, by simpa using this⟩
      simpa using this
    · simp at hok
end Go.Vs
namespace Go.Vs
variable {m : Bool} {P : Program}
abbrev vZ := List ((Nat × Nat) × Value)
def KOk (W : World) (K : vZ) : Prop := ∀ k ∈ K, k.1.2 < qO W k.1.1 ∧ W.cell? ⟨k.1.1, k.1.2, none⟩ = some k.2
theorem KOk.nil {W : World} : KOk W [] := fun _ h => by cases h
theorem KOk.lt {W : World} {K : vZ} (h : KOk W K) : ∀ k ∈ K, k.1.1 < W.heap.size := fun k hk => Nat.lt_of_not_le fun hn => by
  have := (h k hk).1
  unfold qO at this
  rw [Array.getElem?_eq_none hn] at this
  simp at this
def N0 (W : World) (K : vZ := []) (B : List (Nat × Nat) := []) : Env := { n := W.heap.size, Z := fun _ => false, lt := fun g h => by simp at h, K := K, B := B }
theorem KOk.lowB {W : World} {K : vZ} {B : List (Nat × Nat)} (h : KOk W K) (hB : ∀ p ∈ B, BSz W p.1 p.2) : Low (N0 W K B) W (qO W) := ⟨Nat.le_refl _, fun k hk => ⟨(h k hk).1, rfl, (h k hk).2⟩, hB⟩
theorem KOk.low {W : World} {K : vZ} (h : KOk W K) : Low (N0 W K) W (qO W) := h.lowB (fun _ h => by cases h)
end Go.Vs
end
section
namespace Go.Vs
variable {m m' : Bool} {P : Program}
mutual
def reF (φ : Fl m → Fl m') : aB m → aB m'
  | .bool b => .bool b
  | .int k n => .int k n
  | .str s => .str s
  | .unk => .unk
  | .nl e => .nl e
  | .sl c es => .sl (φ c) (reE φ es)
def reL (φ : Fl m → Fl m') : List (aB m) → List (aB m')
  | [] => []
  | l :: r => reF φ l :: reL φ r
def reE (φ : Fl m → Fl m') : List (List (aB m)) → List (List (aB m'))
  | [] => []
  | e :: r => reL φ e :: reE φ r
end
variable {φ : Fl m → Fl m'}
theorem rU : ∀ l : List (aB m), reL φ l = l.map (reF φ)
  | [] => rfl
  | l :: r => by rw [reL, List.map_cons, rU r]
theorem wD : ∀ l : List (List (aB m)), reE φ l = l.map (reL φ)
  | [] => rfl
  | l :: r => by rw [reE, List.map_cons, wD r]
theorem aAd (l : List (aB m)) : (reL φ l).length = l.length := by rw [rU, List.length_map]
theorem bL (l : List (List (aB m))) : (reE φ l).length = l.length := by rw [wD, List.length_map]
theorem wE : ∀ l : List (List (aB m)), (reE φ l).flatten = reL φ l.flatten
  | [] => rfl
  | e :: r => by rw [reE, List.flatten_cons, List.flatten_cons, wE r, rU, rU, rU, List.map_append]
theorem aOG (l : aB m) : (reF φ l).soft = l.soft := by cases l <;> rfl
def aN3 (φ : Fl m → Fl m') (w : World) (F : Fr) (N : Env) (F' : Fr) (N' : Env) : Prop :=
  ∀ (c : Fl m) (g o : Nat), g < w.heap.size → c.Holds N w g o → (φ c).Holds N' w g o ∧ F g ≤ F' g ∧ ((c.isSoft = true → N.Z g = true) → (φ c).isSoft = true → N'.Z g = true) ∧ (N'.Z g = true → N.Z g = true)
theorem aKb {w : World} {g j : Nat} {v : Value} (h : w.cell? ⟨g, j, none⟩ = some v) : g < w.heap.size := by
  unfold World.cell? at h
  simp only at h
  split at h
  · rename_i c e fr hc
    exact (Array.getElem?_eq_some_iff.1 hc).1
  · simp at h
theorem dJ.re {w : World} {F F' : Fr} {N N' : Env} (hok : aN3 φ w F N F' N') {l : aB m} {v : Value} (h : dJ w F N l v) : dJ w F' N' (reF φ l) v := by
  induction h with
  | bool b => exact .bool b
  | int k n => exact .int k n
  | str s => exact .str s
  | unk v h => exact .unk v h
  | nl e => exact .nl e
  | sl c es A cap z vals hc hz hv hcell hr ih =>
    rw [show reF φ (.sl c es) = .sl (φ c) (reE φ es) by rw [reF]]
    have hl : (reE φ es).length = es.length := bL es
    rw [← hl]
    refine .sl (φ c) (reE φ es) A cap z vals (by rw [hl]; exact hc) (fun e he => ?_) (by rw [hl]; exact hv) (fun hpos => ?_) (fun j l v h1 h2 => ?_)
    · rw [wD] at he
      obtain ⟨e0, he0, rfl⟩ := List.mem_map.1 he
      rw [aAd]; exact hz e0 he0
    · rw [hl] at hpos
      obtain ⟨g, o, e, ⟨hv0, hn⟩, hle, hso, hcl⟩ := hcell hpos
      obtain ⟨h1, h2, h3, h4⟩ := hok c g o (aKb (hcl 0 _ (List.getElem?_eq_getElem hv0))) hn
      refine ⟨g, o, e, ⟨hv0, h1⟩, Nat.le_trans hle h2, ⟨fun hs => h3 hso.1 hs, fun hz' l hl' => ?_⟩, hcl⟩
      rw [wE, rU] at hl'
      obtain ⟨l0, hl0, rfl⟩ := List.mem_map.1 hl'
      rw [aOG]
      exact hso.2 (h4 hz') l0 hl0
    · rw [wE, rU, List.getElem?_map, Option.map_eq_some_iff] at h1
      obtain ⟨l0, hl0, rfl⟩ := h1
      exact ih j l0 v hl0 h2
theorem cE.re {w : World} {F F' : Fr} {N N' : Env} (hok : aN3 φ w F N F' N') {ls : List (aB m)} {vs : List Value} (h : cE w F N ls vs) : cE w F' N' (reL φ ls) vs := by
  refine ⟨by rw [aAd, h.1], fun j l v h1 h2 => ?_⟩
  rw [rU, List.getElem?_map, Option.map_eq_some_iff] at h1
  obtain ⟨l0, hl0, rfl⟩ := h1
  exact (h.2 j l0 v hl0 h2).re hok
theorem aDs {w : World} {F : Fr} {N : Env} (hφ : ∀ c g o, (φ c).Holds N w g o) (hs : ∀ c, (φ c).isSoft = false) : aN3 φ w F N F N :=
  fun c g o _ _ => ⟨hφ c g o, Nat.le_refl _, fun _ h => by rw [hs] at h; simp at h, id⟩
theorem aK0 (c : Fl false) {N : Env} {w : World} {g o : Nat} : c.Holds N w g o := by cases c; trivial
theorem aJj {N : Env} {w : World} {g o : Nat} : Fl.Holds (m := true) mV.old N w g o := trivial
end Go.Vs
end
