/- What the program's functions compute, read off their text by the shadow runner (VsFast, VsFast2, VsSub, VsLoop, VsAt, VsNm, VsTy, VsRow, VsRe, VsLift, VsPhase, VsTurn, VsLaw, VsDat); no condition. -/
import Derived.ChangeArms
import Derived.DataReads
import Derived.Below
import Derived.Test.YtdbomanmhhhndaaGreatVB2
section
set_option linter.unusedVariables false
set_option linter.unusedSimpArgs false
namespace Go.Vs
variable {m : Bool}
section
variable {β : Type}
def dU (k0 : IntKind) (l : (aA m)) (k : Int → Option β) : Option β := match l with | .int k1 n => if k1 = k0 then k n else none | _ => none
def cN (l : (aA m)) (k : Bool → Option β) : Option β := match l with | .bool b => k b | _ => none
def bU (l : (aA m)) (k : ByteArray → Option β) : Option β := match l with | .str s => k s | _ => none
def slK (l : (aA m)) (k : Fl m → List (List (aA m)) → Option β) : Option β := match l with | .sl c es => k c es | _ => none
def aH5 (P : Program) (t : TypeId) (l : (aA m)) (k : (aA m) → Option β) : Option β :=
  match P.underlying t with
  | some (.int k0) => dU k0 l fun n => k (.int k0 n)
  | some .bool => cN l fun b => k (.bool b)
  | some .string => bU l fun s => k (.str s)
  | some (.slice _) => slK l fun c es => k (.sl c es)
  | _ => none
def atK (e : List (aA m)) (p : Nat) (k : (aA m) → Option β) : Option β := match e[p]? with | some l => k l | none => none
def rU (P : Program) : List TypeId → List (aA m) → Nat → (List (aA m) → Option β) → Option β
  | [], _, _, k => k []
  | t :: ts, e, p, k => atK e p fun l => aH5 P t l fun l' => rU P ts e (p + 1) fun ls => k (l' :: ls)
def aOb (P : Program) : Nat → TypeId → Option (List TypeId)
  | 0, _ => none
  | n + 1, t => match P.underlying t with
    | some (.struct fs) => fs.toList.foldr (fun f r => (aOb P n f.type).bind fun a => r.map (a ++ ·)) (some [])
    | some (.array _ _) | none => none
    | some _ => some [t]
def fC (e : List (aA m)) (k : List (aA m) → Option β) : Option β := k e
def aJw (P : Program) (t : TypeId) (e : List (aA m)) (p : Nat) (k : (SV m) → Option β) : Option β :=
  match jS P t with
  | true => (aOb P 8 t).bind fun ts => (jM P t).bind fun n => if ts.length = n ∧ 0 < n then fC e fun e => rU P ts e p fun ls => k (.agg ls) else none
  | false => atK e p fun l => aH5 P t l fun l' => k (.leaf l')
def aV (v : (SV m)) (k : (aA m) → Option β) : Option β := match v with | .leaf l => k l | _ => none
def nH (v : (SV m)) (k : Fl m → List (List (aA m)) → Option β) : Option β := match v with | .leaf (.sl c es) => k c es | _ => none
def gS (e : TypeId) (v : (SV m)) (k : List (List (aA m)) → Option β) : Option β := match v with | .own (some e') es => if e' = e then k es else none | _ => none
def aFi (e : TypeId) (v : (SV m)) (k : List (List (aA m)) → Option β) : Option β := match v with | .raw (some e') es => if e' = e then k es else none | _ => none
def aCj (i z : Nat) (v : (SV m)) (k : Nat → Nat → Option β) : Option β := match v with | .bsl b z' lo n => if b = i ∧ z' = z then k lo n else none | _ => none
def aRQ (P : Program) (t : TypeId) (cs : List (SV m)) (p n : Nat) (k : (SV m) → Option β) : Option β :=
  (cG ((cs.drop p).take n)).bind fun e => aJw P t e 0 k
def dY (v : (SV m)) (k : List (aA m) → Option β) : Option β := match v with | .agg cs => k cs | _ => none
def aEE (v : (SV m)) (k : Option β) : Option β := match v with | .nilface => k | _ => none
def jI (v : (SV m)) (k : List (SV m) → Option β) : Option β := match v with | .tup vs => k vs | _ => none
def aCz (P : Program) (own : Bool) (t : TypeId) (v : (SV m)) (k : (SV m) → Option β) : Option β :=
  match P.underlying t with
  | some (.slice e) => (match own with
    | true => gS e v fun es => k (.own (some e) es)
    | false => nH v fun c es => k (.leaf (.sl c es)))
  | some (.struct _) => dY v fun cs => (aOb P 8 t).bind fun ts => aB (cs.length == ts.length) (rU P ts cs 0 fun ls => k (.agg ls))
  | some (.interface _) => aEE v (k .nilface)
  | some _ => aV v fun l => aH5 P t l fun l' => k (.leaf l')
  | none => none
def eX (l : List (SV m)) (k : (SV m) → List (SV m) → Option β) : Option β := match l with | v :: r => k v r | [] => none
def iA (l : List (SV m)) (k : Option β) : Option β := match l with | [] => k | _ => none
def aBA (P : Program) : List TypeId → List (SV m) → (List (SV m) → Option β) → Option β
  | [], l, k => iA l (k [])
  | t :: ts, l, k => eX l fun v r => aCz P false t v fun v' => aBA P ts r fun vs => k (v' :: vs)
def aLr (P : Program) (own : Bool) (t : TypeId) (v : (SV m)) (k : (SV m) → Option β) : Option β :=
  match P.underlying t with
  | some (.tuple ts) => jI v fun vs => aBA P ts.toList vs fun vs' => k (.tup vs')
  | _ => aCz P own t v k
def aK9 (c d : (SV m)) (k : (SV m) → Option β) : Option β :=
  match c with
  | .leaf (.int k0 _) => aV d fun l => dU k0 l fun n => k (.leaf (.int k0 n))
  | .leaf (.bool _) => aV d fun l => cN l fun b => k (.leaf (.bool b))
  | .leaf (.str _) => aV d fun l => bU l fun s => k (.leaf (.str s))
  | .leaf (.sl _ _) => nH d fun c es => k (.leaf (.sl c es))
  | .own (some e) _ => gS e d fun es => k (.own (some e) es)
  | _ => none
def aCO : List (SV m) → List (SV m) → (List (SV m) → Option β) → Option β
  | [], l, k => iA l (k [])
  | c :: cs, l, k => eX l fun d r => aK9 c d fun d' => aCO cs r fun ds => k (d' :: ds)
def aL7 (cs : List (SV m)) (p : Nat) (k : (SV m) → Option β) : Option β := match cs[p]? with | some c => k c | none => none
def aQO (P : Program) (t : TypeId) : Bool := match P.underlying t with | some (.int _) | some .bool | some .string | some (.slice _) => true | _ => false
def aK1 (P : Program) (t : TypeId) (c : (SV m)) (k : (SV m) → Option β) : Option β := match aQO P t with | true => aCz P false t c.drop k | false => k c.drop
def pP (l : List (List (SV m))) (k : List (SV m) → List (List (SV m)) → Option β) : Option β := match l with | v :: r => k v r | [] => none
def mL (l : List (List (SV m))) (k : Option β) : Option β := match l with | [] => k | _ => none
def aRp (row : Bool) (c d : List (SV m)) (k : List (SV m) → Option β) : Option β := match row with | true => k d | false => aCO c d k
def wX : List Bool → List (List (SV m)) → List (List (SV m)) → (List (List (SV m)) → Option β) → Option β
  | [], _, l, k => mL l (k [])
  | w :: ws, [], l, k => mL l (k [])
  | w :: ws, c :: cs, l, k => pP l fun d r => aRp w c d fun d' => wX ws cs r fun ds => k (d' :: ds)
end
section
variable {β : Type} {P : Program}
theorem aO0 {k0 : IntKind} {l : (aA m)} {k : Int → Option β} {y : β} (h : dU k0 l k = some y) : ∃ n, l = .int k0 n ∧ k n = some y := by
  unfold dU at h
  split at h
  · split at h
    · rename_i hk; subst hk; exact ⟨_, rfl, h⟩
    · simp at h
  · simp at h
theorem aNz {l : (aA m)} {k : Bool → Option β} {y : β} (h : cN l k = some y) : ∃ n, l = .bool n ∧ k n = some y := by
  unfold cN at h; split at h
  · exact ⟨_, rfl, h⟩
  · simp at h
theorem aOQ {l : (aA m)} {k : ByteArray → Option β} {y : β} (h : bU l k = some y) : ∃ n, l = .str n ∧ k n = some y := by
  unfold bU at h; split at h
  · exact ⟨_, rfl, h⟩
  · simp at h
theorem aRN {l : (aA m)} {k : Fl m → List (List (aA m)) → Option β} {y : β} (h : slK l k = some y) : ∃ c es, l = .sl c es ∧ k c es = some y := by
  unfold slK at h; split at h
  · exact ⟨_, _, rfl, h⟩
  · simp at h
theorem aJz {t : TypeId} {l : (aA m)} {k : (aA m) → Option β} {y : β} (h : aH5 P t l k = some y) : k l = some y := by
  unfold aH5 at h
  split at h
  · obtain ⟨n, rfl, h'⟩ := aO0 h; exact h'
  · obtain ⟨n, rfl, h'⟩ := aNz h; exact h'
  · obtain ⟨n, rfl, h'⟩ := aOQ h; exact h'
  · obtain ⟨c, es, rfl, h'⟩ := aRN h; exact h'
  · simp at h
theorem aQX {e : List (aA m)} {p : Nat} {k : (aA m) → Option β} {y : β} (h : atK e p k = some y) : ∃ l, e[p]? = some l ∧ k l = some y := by
  unfold atK at h; split at h
  · exact ⟨_, by assumption, h⟩
  · simp at h
theorem aBX : ∀ (ts : List TypeId) (e : List (aA m)) (p : Nat) (k : List (aA m) → Option β) (y : β), rU P ts e p k = some y → (e.drop p).take ts.length = (e.drop p).take ts.length ∧ (ts.length = 0 ∨ p + ts.length ≤ e.length) ∧ k ((e.drop p).take ts.length) = some y
  | [], e, p, k, y, h => ⟨rfl, .inl rfl, by simpa [rU] using h⟩
  | t :: ts, e, p, k, y, h => by
    simp only [rU] at h
    obtain ⟨l, hl, h⟩ := aQX h
    have h := aJz h
    obtain ⟨_, h2, h3⟩ := aBX ts e (p + 1) _ y h
    have hlt := (List.getElem?_eq_some_iff.1 hl).1
    have hd : e.drop p = l :: e.drop (p + 1) := by
      rw [List.drop_eq_getElem_cons hlt]
      congr 1
      exact (List.getElem?_eq_some_iff.1 hl).2
    refine ⟨rfl, .inr ?_, ?_⟩
    · simp only [List.length_cons]
      rcases h2 with h2 | h2 <;> omega
    · rw [hd]
      simpa using h3
theorem aMF {t : TypeId} {e : List (aA m)} {p : Nat} {k : (SV m) → Option β} {y : β} (h : aJw P t e p k = some y) : ∃ v, zE P t e p = some v ∧ k v = some y := by
  unfold aJw at h
  unfold zE
  split at h
  · rename_i ha
    rw [if_pos ha]
    rw [Option.bind_eq_some_iff] at h
    obtain ⟨ts, hts, h⟩ := h
    rw [Option.bind_eq_some_iff] at h
    obtain ⟨n, hn, h⟩ := h
    split at h
    · rename_i hl
      obtain ⟨_, h2, h3⟩ := aBX ts e p _ y h
      rw [hn]
      rw [hl.1] at h2 h3
      have hle : p + n ≤ e.length := by rcases h2 with h2 | h2 <;> omega
      exact ⟨.agg ((e.drop p).take n), by simp [hle], h3⟩
    · simp at h
  · rename_i ha
    rw [if_neg (by simp [ha])]
    obtain ⟨l, hl, h⟩ := aQX h
    have h := aJz h
    exact ⟨.leaf l, by rw [hl]; rfl, h⟩
theorem aAM {v : (SV m)} {k : (aA m) → Option β} {y : β} (h : aV v k = some y) : ∃ l, v = .leaf l ∧ k l = some y := by
  unfold aV at h; split at h
  · exact ⟨_, rfl, h⟩
  · simp at h
theorem aNn {v : (SV m)} {k : Fl m → List (List (aA m)) → Option β} {y : β} (h : nH v k = some y) : ∃ c es, v = .leaf (.sl c es) ∧ k c es = some y := by
  unfold nH at h; split at h
  · exact ⟨_, _, rfl, h⟩
  · simp at h
theorem aKT {e : TypeId} {v : (SV m)} {k : List (List (aA m)) → Option β} {y : β} (h : gS e v k = some y) : ∃ es, v = .own (some e) es ∧ k es = some y := by
  unfold gS at h; split at h
  · split at h
    · rename_i he; subst he; exact ⟨_, rfl, h⟩
    · simp at h
  · simp at h
theorem aPz {v : (SV m)} {k : List (aA m) → Option β} {y : β} (h : dY v k = some y) : ∃ cs, v = .agg cs ∧ k cs = some y := by
  unfold dY at h; split at h
  · exact ⟨_, rfl, h⟩
  · simp at h
theorem aPp {v : (SV m)} {k : Option β} {y : β} (h : aEE v k = some y) : v = .nilface ∧ k = some y := by
  unfold aEE at h; split at h
  · exact ⟨rfl, h⟩
  · simp at h
theorem aPA {v : (SV m)} {k : List (SV m) → Option β} {y : β} (h : jI v k = some y) : ∃ vs, v = .tup vs ∧ k vs = some y := by
  unfold jI at h; split at h
  · exact ⟨_, rfl, h⟩
  · simp at h
theorem aNc {l : List (SV m)} {k : (SV m) → List (SV m) → Option β} {y : β} (h : eX l k = some y) : ∃ v r, l = v :: r ∧ k v r = some y := by
  unfold eX at h; split at h
  · exact ⟨_, _, rfl, h⟩
  · simp at h
theorem aMK {l : List (SV m)} {k : Option β} {y : β} (h : iA l k = some y) : l = [] ∧ k = some y := by
  unfold iA at h; split at h
  · exact ⟨rfl, h⟩
  · simp at h
theorem aGG {own : Bool} {t : TypeId} {v : (SV m)} {k : (SV m) → Option β} {y : β} (h : aCz P own t v k = some y) : k v = some y := by
  unfold aCz at h
  split at h
  · split at h
    · obtain ⟨es, rfl, h'⟩ := aKT h; exact h'
    · obtain ⟨c, es, rfl, h'⟩ := aNn h; exact h'
  · obtain ⟨cs, rfl, h'⟩ := aPz h
    rw [Option.bind_eq_some_iff] at h'
    obtain ⟨ts, hts, h2⟩ := h'
    obtain ⟨hl, h3⟩ := bG h2
    obtain ⟨_, _, h4⟩ := aBX ts cs 0 _ y h3
    have hl' : cs.length = ts.length := by simpa using hl
    rw [← hl', List.drop_zero, List.take_length] at h4
    exact h4
  · obtain ⟨rfl, h'⟩ := aPp h; exact h'
  · obtain ⟨l, rfl, h'⟩ := aAM h
    exact aJz h'
  · simp at h
theorem aKZ : ∀ (ts : List TypeId) (l : List (SV m)) (k : List (SV m) → Option β) (y : β), aBA P ts l k = some y → k l = some y
  | [], l, k, y, h => by
    simp only [aBA] at h
    obtain ⟨rfl, h'⟩ := aMK h
    exact h'
  | t :: ts, l, k, y, h => by
    simp only [aBA] at h
    obtain ⟨v, r, rfl, h'⟩ := aNc h
    exact aKZ ts r _ y (aGG h')
theorem aQA {own : Bool} {t : TypeId} {v : (SV m)} {k : (SV m) → Option β} {y : β} (h : aLr P own t v k = some y) : k v = some y := by
  unfold aLr at h
  split at h
  · obtain ⟨vs, rfl, h'⟩ := aPA h
    exact aKZ _ _ _ y h'
  · exact aGG h
theorem aP2 {c d : (SV m)} {k : (SV m) → Option β} {y : β} (h : aK9 c d k = some y) : k d = some y := by
  unfold aK9 at h
  split at h
  · obtain ⟨l, rfl, h1⟩ := aAM h; obtain ⟨n, rfl, h2⟩ := aO0 h1; exact h2
  · obtain ⟨l, rfl, h1⟩ := aAM h; obtain ⟨n, rfl, h2⟩ := aNz h1; exact h2
  · obtain ⟨l, rfl, h1⟩ := aAM h; obtain ⟨n, rfl, h2⟩ := aOQ h1; exact h2
  · obtain ⟨c, es, rfl, h1⟩ := aNn h; exact h1
  · obtain ⟨es, rfl, h1⟩ := aKT h; exact h1
  · simp at h
theorem aLg : ∀ (cs l : List (SV m)) (k : List (SV m) → Option β) (y : β), aCO cs l k = some y → k l = some y
  | [], l, k, y, h => by
    simp only [aCO] at h
    obtain ⟨rfl, h'⟩ := aMK h
    exact h'
  | c :: cs, l, k, y, h => by
    simp only [aCO] at h
    obtain ⟨v, r, rfl, h'⟩ := aNc h
    exact aLg cs r _ y (aP2 h')
theorem aNh {l : List (List (SV m))} {k : List (List (SV m)) → Option β} {y : β} (h : mL l (k []) = some y) : k l = some y := by
  unfold mL at h
  split at h
  · exact h
  · simp at h
theorem aRf {row : Bool} {c d : List (SV m)} {k : List (SV m) → Option β} {y : β} (h : aRp row c d k = some y) : k d = some y := by
  cases row
  · exact aLg c d k y h
  · exact h
theorem aKX : ∀ (ws : List Bool) (cs l : List (List (SV m))) (k : List (List (SV m)) → Option β) (y : β), wX ws cs l k = some y → k l = some y
  | [], _, l, k, y, h => aNh (by simpa only [wX] using h)
  | w :: ws, [], l, k, y, h => aNh (by simpa only [wX] using h)
  | w :: ws, c :: cs, l, k, y, h => by
    simp only [wX] at h
    unfold pP at h
    split at h
    · rename_i v r
      have h2 := aRf h
      exact aKX ws cs r (fun ds => k (v :: ds)) y h2
    · simp at h
theorem aRk {cs : List (SV m)} {p : Nat} {k : (SV m) → Option β} {y : β} (h : aL7 cs p k = some y) : ∃ c, cs[p]? = some c ∧ k c = some y := by
  unfold aL7 at h; split at h
  · exact ⟨_, by assumption, h⟩
  · simp at h
theorem aQN {t : TypeId} {c : (SV m)} {k : (SV m) → Option β} {y : β} (h : aK1 P t c k = some y) : k c.drop = some y := by
  unfold aK1 at h
  split at h
  · exact aGG h
  · exact h
end
def aRa (op : BinOp) (k : IntKind) (a b : Int) : Option (Bool × (aA m)) :=
  match op with
  | .quo => some (!(b == 0), .int k (k.wrap (a.tdiv b)))
  | .rem => some (!(b == 0), .int k (a.tmod b))
  | .shl => some (decide (0 ≤ b), .int k (k.wrap (a * 2 ^ min b.toNat k.bits)))
  | .shr => some (decide (0 ≤ b), .int k (a.fdiv (2 ^ min b.toNat k.bits)))
  | op => (aA3 op k a b).map fun l => (true, l)
def aRL (op : BinOp) (x y : ByteArray) : Option (Bool × (aA m)) :=
  match op with
  | .add => some (decide (x.size + y.size ≤ 140737488355328), .str (x ++ y))
  | op => (aKI op x y).map fun l => (true, l)
def aRY (P : Program) (op : BinOp) (t : TypeId) (x y : (SV m)) : Option (Bool × (SV m)) :=
  match x.drop, y.drop with
  | .leaf (.int k a), .leaf (.int k' b) =>
    if aIP op = true then (aRa op k a b).map fun p => (p.1, .leaf p.2)
    else if k = k' then (aRa op k a b).map fun p => (p.1, .leaf p.2) else none
  | .leaf (.str a), .leaf (.str b) => (aRL op a b).map fun p => (p.1, .leaf p.2)
  | _, _ => (aL2 P op t x y).map fun v => (true, v)
theorem aQp {op : BinOp} {k : IntKind} {a b : Int} {p : Bool × (aA m)} (h : aRa op k a b = some p) (hp : p.1 = true) : aA3 op k a b = some p.2 := by
  cases op <;> simp only [aRa] at h <;> try (rw [Option.map_eq_some_iff] at h; obtain ⟨l, hl, rfl⟩ := h; exact hl)
  all_goals (simp only [Option.some.injEq] at h; subst h; simp at hp)
  · simp [aA3, hp]
  · simp [aA3, hp]
  · simp only [aA3]; rw [if_neg (by omega)]
  · simp only [aA3]; rw [if_neg (by omega)]
theorem aRE {op : BinOp} {a b : ByteArray} {p : Bool × (aA m)} (h : aRL op a b = some p) (hp : p.1 = true) : aKI op a b = some p.2 := by
  cases op <;> simp only [aRL] at h <;> try (rw [Option.map_eq_some_iff] at h; obtain ⟨l, hl, rfl⟩ := h; exact hl)
  simp only [Option.some.injEq] at h; subst h; simp at hp
  simp [aKI, hp]
theorem aRT {P : Program} {op : BinOp} {t : TypeId} {x y : (SV m)} {p : Bool × (SV m)} (h : aRY P op t x y = some p) (hp : p.1 = true) : aL2 P op t x y = some p.2 := by
  unfold aRY at h
  split at h
  · rename_i k a k' b ex ey
    unfold aL2
    rw [ex, ey]
    simp only
    split at h
    · rename_i hs
      rw [if_pos hs]
      rw [Option.map_eq_some_iff] at h ⊢
      obtain ⟨q, hq, rfl⟩ := h
      exact ⟨q.2, aQp hq hp, rfl⟩
    · rename_i hs
      rw [if_neg hs]
      split at h
      · rename_i hk
        rw [if_pos hk]
        rw [Option.map_eq_some_iff] at h ⊢
        obtain ⟨q, hq, rfl⟩ := h
        exact ⟨q.2, aQp hq hp, rfl⟩
      · simp at h
  · rename_i a b ex ey
    unfold aL2
    rw [ex, ey]
    simp only
    rw [Option.map_eq_some_iff] at h ⊢
    obtain ⟨q, hq, rfl⟩ := h
    exact ⟨q.2, aRE hq hp, rfl⟩
  · rw [Option.map_eq_some_iff] at h
    obtain ⟨v, hv, rfl⟩ := h
    exact hv
def aR9 : (SV m) → Option (Bool × Nat)
  | .leaf (.int _ n) => some (decide (0 ≤ n), n.toNat)
  | _ => none
def aQq (ρ : Operand → (SV m)) : Option Operand → Option (Bool × Option Nat)
  | none => some (true, none)
  | some x => (aR9 (ρ x)).map fun p => (p.1, some p.2)
theorem aQx {ρ : Operand → (SV m)} {x : Option Operand} {p : Bool × Option Nat} (h : aQq ρ x = some p) (hp : p.1 = true) : kO ρ x = some p.2 := by
  cases x with
  | none => simp [aQq] at h; subst h; rfl
  | some x =>
    simp only [aQq, Option.map_eq_some_iff] at h
    obtain ⟨q, hq, rfl⟩ := h
    simp only [kO]
    unfold aR9 at hq
    split at hq
    · rename_i k n hx
      simp only [Option.some.injEq] at hq
      subst hq
      have : 0 ≤ n := of_decide_eq_true hp
      simp [aOM, hx, this]
    · simp at hq
def aNG (P : Program) (t : TypeId) (x : (SV m)) (lo hi : Option Nat) : Option (Bool × (SV m)) :=
  match P.underlying t, x.drop with
  | some (.slice _), .bsl b z k n =>
    (nZ P t).bind fun e => (jM P e).bind fun z' => if z' = z then some (decide (lo.getD 0 ≤ hi.getD n) && decide (hi.getD n ≤ n), .bsl b z (k + lo.getD 0) (hi.getD n - lo.getD 0)) else none
  | some .string, .leaf (.str b) => some (decide (lo.getD 0 ≤ hi.getD b.size) && decide (hi.getD b.size ≤ b.size), .leaf (.str (b.extract (lo.getD 0) (hi.getD b.size))))
  | some (.slice _), .leaf (.sl c es) =>
    (nZ P t).bind fun e => (jM P e).bind fun z =>
      some (decide (lo.getD 0 ≤ hi.getD es.length) && decide (hi.getD es.length ≤ es.length) && sized z es, .leaf (.sl (c.later lo) ((es.take (hi.getD es.length)).drop (lo.getD 0))))
  | _, _ => none
theorem aP6 {P : Program} {t : TypeId} {x : (SV m)} {lo hi : Option Nat} {p : Bool × (SV m)} (h : aNG P t x lo hi = some p) (hp : p.1 = true) : aAA P t x lo hi = some p.2 := by
  unfold aNG at h
  split at h
  · rename_i e b z k n hu ex
    rw [Option.bind_eq_some_iff] at h
    obtain ⟨e', he, h⟩ := h
    rw [Option.bind_eq_some_iff] at h
    obtain ⟨z', hz, h⟩ := h
    split at h
    · rename_i hzz
      simp only [Option.some.injEq] at h; subst h
      simp only [Bool.and_eq_true, decide_eq_true_eq] at hp
      unfold aAA
      rw [hu, ex]
      simp only [he, hz, Option.bind_some]
      rw [if_pos ⟨hp, hzz⟩]
    · simp at h
  · rename_i b hu ex
    simp only [Option.some.injEq] at h; subst h
    simp only [Bool.and_eq_true, decide_eq_true_eq] at hp
    unfold aAA
    rw [hu, ex]
    simp only
    rw [if_pos hp]
  · rename_i e c es hu ex
    rw [Option.bind_eq_some_iff] at h
    obtain ⟨e', he, h⟩ := h
    rw [Option.bind_eq_some_iff] at h
    obtain ⟨z, hz, h⟩ := h
    simp only [Option.some.injEq] at h; subst h
    simp only [Bool.and_eq_true, decide_eq_true_eq] at hp
    unfold aAA
    rw [hu, ex]
    simp only [he, hz, Option.bind_some]
    rw [if_pos hp.1, hp.2]
    rfl
  · simp at h
def aFj (P : Program) (t : TypeId) (x i : (SV m)) : Option (Bool × (SV m)) :=
  match nZ P t, x.drop, i with
  | some e, .bsl b z lo k, .leaf (.int _ n) => (jM P e).bind fun z' => if z' = z ∧ 0 < z then some (decide (0 ≤ n) && decide (n < (k : Int)), .ptr b ((lo + n.toNat) * z)) else none
  | some e, .leaf (.sl c es), .leaf (.int _ n) => (jM P e).bind fun z =>
    some (decide (0 ≤ n) && decide (n < (es.length : Int)) && sized z es, .eptr c (es.getD n.toNat []) 0)
  | _, _, _ => none
theorem aLS {P : Program} {t : TypeId} {x i : (SV m)} {p : Bool × (SV m)} (h : aFj P t x i = some p) (hp : p.1 = true) : oD P t x i = some p.2 := by
  unfold aFj at h
  split at h
  · rename_i e b z lo q kk n he ex
    rw [Option.bind_eq_some_iff] at h
    obtain ⟨z', hz, h⟩ := h
    split at h
    · rename_i hzz
      simp only [Option.some.injEq] at h; subst h
      simp only [Bool.and_eq_true, decide_eq_true_eq] at hp
      unfold oD
      rw [he, ex]
      simp only [hz, Option.bind_some]
      rw [if_pos hp.1, if_pos hp.2, if_pos hzz]
    · simp at h
  · rename_i e c es k n he ex
    rw [Option.bind_eq_some_iff] at h
    obtain ⟨z, hz, h⟩ := h
    simp only [Option.some.injEq] at h; subst h
    simp only [Bool.and_eq_true, decide_eq_true_eq] at hp
    unfold oD
    rw [he, ex]
    simp only [hz, Option.bind_some]
    rw [if_pos hp.1.1, if_pos hp.1.2, hp.2]
    rfl
  · simp at h
def aQR (P : Program) (t : TypeId) (l c : (SV m)) : Option (Bool × ((Nat × Nat) × List (SV m))) :=
  match l, c with
  | .leaf (.int _ a), .leaf (.int _ b) =>
    (nZ P t).bind fun e => (P.info? e).bind fun i => (oM P e).bind fun ze => aB (decide (0 < i.size) && ze.length == i.size) <|
      some (decide (0 ≤ a) && a == b && decide (a.toNat * i.bytes ≤ aH) && decide (a.toNat ≤ aH), ((i.size, a.toNat), ((List.replicate a.toNat ze).flatten.map .leaf)))
  | _, _ => none
theorem aRm {P : Program} {t : TypeId} {x y : (SV m)} {p : Bool × ((Nat × Nat) × List (SV m))} (h : aQR P t x y = some p) (hp : p.1 = true) : aK3 P t x y = some p.2 := by
  unfold aQR at h
  split at h
  · rename_i k1 a k2 b
    rw [Option.bind_eq_some_iff] at h
    obtain ⟨e, he, h⟩ := h
    rw [Option.bind_eq_some_iff] at h
    obtain ⟨i, hi, h⟩ := h
    rw [Option.bind_eq_some_iff] at h
    obtain ⟨ze, hze, h⟩ := h
    obtain ⟨hg, h⟩ := bG h
    simp only [Option.some.injEq] at h; subst h
    simp only [Bool.and_eq_true, decide_eq_true_eq, beq_iff_eq] at hp hg
    unfold aK3
    simp only [he, hi, hze, Option.bind_some]
    rw [if_pos ⟨⟨hp.1.1.1, hp.1.1.2⟩, ⟨hg.1, hp.1.2, hp.2⟩, hg.2⟩]
  · simp at h
def aNM (P : Program) (t : TypeId) (x i : (SV m)) : Option (Bool × (SV m)) :=
  match P.underlying t, x, i with
  | some .string, .leaf (.str s), .leaf (.int _ n) => some (decide (0 ≤ n) && decide (n < (s.size : Int)), .leaf (.int .u8 (s.data.toList.getD n.toNat 0).toNat))
  | _, _, _ => none
theorem aQu {P : Program} {t : TypeId} {x i : (SV m)} {p : Bool × (SV m)} (h : aNM P t x i = some p) (hp : p.1 = true) : aEX P t x i = some p.2 := by
  unfold aNM at h
  split at h
  · rename_i s k n hu
    simp only [Option.some.injEq] at h; subst h
    simp only [Bool.and_eq_true, decide_eq_true_eq] at hp
    unfold aEX
    rw [hu]
    simp only
    rw [if_pos hp.1, if_pos hp.2]
  · simp at h
def aMg (P : Program) (argTypes : Array TypeId) (x y : (SV m)) : Option (Bool × (SV m)) :=
  match argTypes.toList, x with
  | [t, u], .own eo es =>
    (nZ P t).bind fun e => (P.info? e).bind fun i => aB (eo.getD e == e && decide (0 < i.size) && decide (0 < i.bytes) && nN P e) <|
      match P.underlying u, y.see with
      | some (.slice _), .leaf (.sl _ fs) => if t = u then some (decide ((es.length + fs.length) * i.bytes ≤ aH) && sized i.size fs, .own (some e) (es ++ fs)) else none
      | some .string, .leaf (.str s) => aB (uA P e) (some (decide (es.length + s.size ≤ aH), .own (some e) (es ++ s.data.toList.map fun b => [.int .u8 b.toNat])))
      | _, _ => none
  | [t, u], .raw eo es =>
    (nZ P t).bind fun e => (P.info? e).bind fun i => aB (eo.getD e == e && decide (0 < i.size) && decide (0 < i.bytes) && nN P e) <|
      match P.underlying u, y.see with
      | some (.slice _), .leaf (.sl _ fs) => if t = u then some (decide ((es.length + fs.length) * i.bytes ≤ aH) && sized i.size fs, .raw (some e) (es ++ fs)) else none
      | some .string, .leaf (.str s) => aB (uA P e) (some (decide (es.length + s.size ≤ aH), .raw (some e) (es ++ s.data.toList.map fun b => [.int .u8 b.toNat])))
      | _, _ => none
  | _, _ => none
theorem aPe {P : Program} {ts : Array TypeId} {x y : (SV m)} {p : Bool × (SV m)} (h : aMg P ts x y = some p) (hp : p.1 = true) : aAR P ts x y = some p.2 := by
  unfold aMg at h
  split at h
  · rename_i t u eo es hts
    rw [Option.bind_eq_some_iff] at h
    obtain ⟨e, he, h⟩ := h
    rw [Option.bind_eq_some_iff] at h
    obtain ⟨i, hi, h⟩ := h
    obtain ⟨hg, h⟩ := bG h
    unfold aAR
    rw [hts]
    simp only [he, hi, Option.bind_some, hg, aB]
    split at h
    · rename_i e2 c fs hu hy
      rw [hu, hy]
      simp only
      split at h
      · rename_i htu
        simp only [Option.some.injEq] at h; subst h
        simp only [Bool.and_eq_true, decide_eq_true_eq] at hp
        rw [if_pos ⟨htu, hp.1⟩, hp.2]
      · simp at h
    · rename_i s hu hy
      rw [hu, hy]
      simp only
      obtain ⟨hz, h⟩ := bG h
      simp only [Option.some.injEq] at h; subst h
      have hp' := of_decide_eq_true hp
      rw [if_pos hp', hz]
    · simp at h
  · rename_i t u eo es hts
    rw [Option.bind_eq_some_iff] at h
    obtain ⟨e, he, h⟩ := h
    rw [Option.bind_eq_some_iff] at h
    obtain ⟨i, hi, h⟩ := h
    obtain ⟨hg, h⟩ := bG h
    unfold aAR
    rw [hts]
    simp only [he, hi, Option.bind_some, hg, aB]
    split at h
    · rename_i e2 c fs hu hy
      rw [hu, hy]
      simp only
      split at h
      · rename_i htu
        simp only [Option.some.injEq] at h; subst h
        simp only [Bool.and_eq_true, decide_eq_true_eq] at hp
        rw [if_pos ⟨htu, hp.1⟩, hp.2]
      · simp at h
    · rename_i s hu hy
      rw [hu, hy]
      simp only
      obtain ⟨hz, h⟩ := bG h
      simp only [Option.some.injEq] at h; subst h
      have hp' := of_decide_eq_true hp
      rw [if_pos hp', hz]
    · simp at h
  · simp at h
def aJl : List (aA m) → Bool | [.int .u8 _] => true | _ => false
def aEC : List (aA m) → UInt8 | [.int .u8 n] => UInt8.ofNat n.toNat | _ => 0
def aQW (P : Program) (src dst : TypeId) (x : (SV m)) : Option (Bool × (SV m)) :=
  match P.underlying src, P.underlying dst, x.drop with
  | some (.slice e), some .string, .leaf (.sl _ es) =>
    match P.underlying e with
    | some (.int .u8) => some (es.all aJl, .leaf (.str ⟨(es.map aEC).toArray⟩))
    | _ => none
  | _, _, _ => (aHY P src dst x).map fun v => (true, v)
theorem aKN : ∀ (es : List (List (aA m))), es.all aJl = true → lS es = some (es.map aEC)
  | [], _ => rfl
  | e :: es, h => by
    simp only [List.all_cons, Bool.and_eq_true] at h
    have ih := aKN es h.2
    have h1 := h.1
    unfold aJl at h1
    split at h1
    · simp [lS, ih, aEC]
    · simp at h1
theorem aQ8 {P : Program} {src dst : TypeId} {x : (SV m)} {p : Bool × (SV m)} (h : aQW P src dst x = some p) (hp : p.1 = true) : aHY P src dst x = some p.2 := by
  unfold aQW at h
  split at h
  · rename_i e c es hs hd ex
    unfold aHY
    rw [hs, hd, ex]
    simp only
    split at h
    · rename_i he
      simp only [Option.some.injEq] at h; subst h
      rw [he]
      simp [aKN es hp]
    · simp at h
  · rw [Option.map_eq_some_iff] at h
    obtain ⟨v, hv, rfl⟩ := h
    exact hv
end Go.Vs
end
section
namespace Go.Vs
variable {m : Bool}
section
variable {β : Type}
def aNQ (P : Program) (own : Bool) (rk : Nat) (dst : Option Tmp) (t : TypeId) (v : (SV m)) (k : (SV m) → Option β) : Option β := match rk with
  | 0 => (match dst with | none => k v | some _ => aLr P own t v k)
  | 1 => (nZ P t).bind fun e => aFi e v fun es => k (.raw (some e) es)
  | r + 2 => aCj (r % 16) (r / 16) v fun lo n => k (.bsl (r % 16) (r / 16) lo n)
def aRM (args : List (SV m)) : List Nat := args.flatMap fun | .bsl b _ _ _ => [b] | _ => []
def aGV (P : Program) (D : (aP m)) (s : (St m)) (own pureHint : Bool) (rk : Nat) (f : FuncId) (args : List (SV m)) (dst : Option Tmp) (t : TypeId) (k : (St m) → Option β) : Option β :=
  aB (args.all SV.handed) <|
    match pureHint with
    | true => aB (iO args).isEmpty ((D f args []).bind fun r => aNQ P own rk dst t r.1 fun v => k (s.put dst v))
    | false => (pY s.boxes (iO args)).bind fun cs => aB (cs.all (·.all SV.flat)) <|
        (D f (args.map (SV.ren (fW (iO args)))) cs).bind fun r => wX ((iO args).map (aRM args).contains) cs r.2 fun bs => aNQ P own rk dst t r.1 fun v => k (({ s with boxes := gI s.boxes (iO args) bs } : (St m)).put dst (v.ren ((iO args).getD · 0)))
def refine (s : (St m)) (x : Operand) (b : Bool) : (St m) := match x with | .tmp t => s.put (some t) (.leaf (.bool b)) | _ => s
def aL4 (s : (St m)) (t : Tmp) (want : Bool) (x y : (St m) → Option β) : Option β :=
  match s.tmps.getD t .any with
  | .leaf (.bool b) => aD (b == want) (x (refine s (.tmp t) want)) (y (refine s (.tmp t) !want))
  | .skip => y s
  | _ => none
def mR (cs : List (SV m)) (p : Nat) (vs : List (SV m)) : List (SV m) := cs.take p ++ vs ++ cs.drop (p + vs.length)
def eS (P : Program) (D : (aP m)) (nt : Nat) (mv pu ta : Bool) (rk : Nat) (o : Oper) (s : (St m)) (k : (St m) → Option β) : Option β :=
  match o.op with
  | .pick c a b => nF (s.eval c) fun t => aD t (k ((refine s c true).put o.dst ((refine s c true).eval a).drop)) (k ((refine s c false).put o.dst ((refine s c false).eval b).drop))
  | .load t x => (match s.eval x with
    | .eptr _ e p => aJw P t e p fun v => k (s.put o.dst v)
    | .ptr b p => (match jS P t, mv, rk with
      | false, false, _ => (s.box b).bind fun cs => aL7 cs p fun c => aK1 P t c fun v => k (s.put o.dst v)
      | true, _, 1 => (s.box b).bind fun cs => (jM P t).bind fun n => aB (decide (p + n ≤ cs.length)) (aRQ P t cs p n fun v => k (s.put o.dst v))
      | _, _, _ => eU P D nt mv pu ta o s k)
    | _ => eU P D nt mv pu ta o s k)
  | .store t x y => (match s.eval x with
    | .ptr b p => (s.box b).bind fun cs => (jM P t).bind fun n => aB ((s.eval y).data || aBp (s.eval y)) (aB (n == (s.eval y).cells.length && decide (p + n ≤ cs.length)) (k (((s.take y).setBox b (some (mR cs p (s.eval y).cells))).put o.dst .skip)))
    | _ => eU P D nt mv pu ta o s k)
  | .makeSlice t l c => (match o.dst with
    | some d => (match s.box d with
      | none => aB (decide (d < nt)) ((aQR P t (s.eval l) (s.eval c)).bind fun p => aB p.1 (k ((s.setBox d (some p.2.2)).put o.dst (.bsl d p.2.1.1 0 p.2.1.2))))
      | some _ => none)
    | none => none)
  | .binOp op t x y _ => (aRY P op t (s.eval x) (s.eval y)).bind fun p => aB p.1 (k (s.put o.dst p.2))
  | .convert src dst x => (aQW P src dst (s.eval x)).bind fun p => aB p.1 (k (s.put o.dst p.2))
  | .slice t x lo hi none => (aQq s.eval lo).bind fun l => (aQq s.eval hi).bind fun h => (aNG P t (s.eval x) l.2 h.2).bind fun p => aB (l.1 && h.1 && p.1) (k (s.put o.dst p.2))
  | .indexAddr t x i => (aFj P t (s.eval x) (s.eval i)).bind fun p => aB p.1 (k (s.put o.dst p.2))
  | .index t x i => (aNM P t (s.eval x) (s.eval i)).bind fun p => aB p.1 (k (s.put o.dst p.2))
  | .call c => (match c.callee with
    | .builtin .append => (match c.args.toList with
      | [x, y] => (aMg P c.argTypes (s.eval x) (s.eval y)).bind fun p => aB p.1 (k ((s.take x).put o.dst p.2))
      | _ => none)
    | .builtin .clear => (match c.args.toList with
      | [x] => (match s.eval x with
        | .bsl b z lo n => (s.box b).bind fun cs => (c.argTypes[0]?).bind fun t => (nZ P t).bind fun e => (oM P e).bind fun ze => aB (ze.length == z && decide (0 < z)) (aB (decide ((lo + n) * z ≤ cs.length)) (k ((s.setBox b (some (mR cs (lo * z) ((List.replicate n ze).flatten.map .leaf)))).put o.dst .any)))
        | _ => none)
      | _ => none)
    | .value g => (match s.eval g with
      | .fn f caps => aB (decide (cJ c.args.toList).Nodup) (aGV P D (s.takes (wK ta c.args.toList)) mv pu rk f (c.args.toList.map (pK ta s.eval) ++ caps) o.dst o.type k)
      | _ => none)
    | _ => eU P D nt mv pu ta o s k)
  | _ => eU P D nt mv pu ta o s k
def aGU (P : Program) (D : (aP m)) (nt : Nat) (mv pu ta : Bool) (rk : Nat) (ops : Array Oper) (o : Oper) (s : (St m)) (k : (St m) → Option β) : Option β :=
  match o.guard with
  | none => eS P D nt mv pu ta rk o s k
  | some (j, want) => match (ops[j]?).bind (·.dst) with
    | some t => aL4 s t want (fun s => eS P D nt mv pu ta rk o s k) (fun s => k (s.put o.dst .skip))
    | none => none
def xQ (P : Program) (D : (aP m)) (nt : Nat) (mv pu ta : Nat → Bool) (rk : Nat → Nat) (ops : Array Oper) : List Oper → Nat → (St m) → ((St m) → Option β) → Option β
  | [], _, s, k => k s
  | o :: r, i, s, k => aGU P D nt (mv i) (pu i) (ta i) (rk i) ops o s fun s' => xQ P D nt mv pu ta rk ops r (i + 1) s' k
def aR7 (H : fI) (r i : Nat) : Nat := (((H.fz (1048577 + r)).find? fun x => x % 4096 == i).map (· / 4096)).getD 0
end
section
variable {β : Type}
def aP9 (v : (SV m)) (k : (SV m) → Option β) : Option β :=
  match v with
  | .any => k .any
  | .skip => k .skip
  | .leaf l => k (.leaf l)
  | .own e es => k (.own e es)
  | .raw e es => k (.raw e es)
  | .agg cs => k (.agg cs)
  | .ptr b o => k (.ptr b o)
  | .eptr c e o => k (.eptr c e o)
  | .bsl b z lo n => k (.bsl b z lo n)
  | .kfn f cs => k (.kfn f cs)
  | .nilptr => k .nilptr
  | .nilface => k .nilface
  | .fn f caps => k (.fn f caps)
  | .tup vs => k (.tup vs)
theorem aPN (v : (SV m)) (k : (SV m) → Option β) : aP9 v k = k v := by cases v <;> rfl
def aLx : List (SV m) → (List (SV m) → Option β) → Option β
  | [], k => k []
  | v :: l, k => aP9 v fun v' => aLx l fun l' => k (v' :: l')
theorem aKV : ∀ (l : List (SV m)) (k : List (SV m) → Option β), aLx l k = k l
  | [], _ => rfl
  | v :: l, k => by simp only [aLx, aPN, aKV l]
def aHw : List (Option (List (SV m))) → (List (Option (List (SV m))) → Option β) → Option β
  | [], k => k []
  | none :: l, k => aHw l fun l' => k (none :: l')
  | some c :: l, k => aHw l fun l' => k (some c :: l')
theorem aG6 : ∀ (l : List (Option (List (SV m)))) (k : List (Option (List (SV m))) → Option β), aHw l k = k l
  | [], _ => rfl
  | none :: l, k => by simp only [aHw, aG6 l]
  | some c :: l, k => by simp only [aHw, aG6 l]
def tG (s : (St m)) (k : (St m) → Option β) : Option β := aLx s.tmps fun t => aHw s.boxes fun b => k ⟨t, b⟩
theorem sP (s : (St m)) (k : (St m) → Option β) : tG s k = k s := by unfold tG; rw [aKV, aG6]
end
def dV {β : Type} (P : Program) (D : (aP m)) (H : fI) (loop : ((St m) → Option (Out m)) → ((St m) → Option (St m)) → (St m) → Option (Out m)) : Nat → Code → (St m) → ((Out m) → Option β) → Option β
  | _, .skip, s, k => k (.norm s)
  | _, .region id ops draw, s, k => aB (!draw || wT (H.mv id) (H.pure id) (H.take id) ops) (tG (St.freeze H.nt s (H.fz (4194304 + id))) fun s => xQ P D H.nt (H.mv id) (H.pure id) (H.take id) (aR7 H id) ops ops.toList 0 s fun s' => tG (St.freeze H.nt (s'.tidy (H.after id) (H.afterB id)) (H.fz id)) fun s' => k (.norm s'))
  | blk, .seq a b, s, k => dV P D H loop blk a s (aNA (fun s' => dV P D H loop blk b s' k) k)
  | blk, .cond c a b, s, k => nF (s.eval c) fun t => aD t (tG (s.dropC H.condA c) fun s => dV P D H loop blk a s k) (tG (s.dropC H.condB c) fun s => dV P D H loop blk b s k)
  | _, .block id a, s, k => dV P D H loop id a s (rP id k)
  | blk, .loop a, s, k => (loop (fun s => dV P D H loop blk a s some) (fun s => s.again (H.clear blk) (H.drop blk)) s).bind k
  | _, .exit id, s, k => k (.exit id s)
  | _, .ret, s, k => k (.ret s)
  | _, _, _, _ => none
def aMb (P : Program) (fn : Func) (n : Nat) (s : (St m)) : Option ((SV m) × List (List (SV m))) := match fn.results.toList with
  | [.tmp t] => (match s.tmps.getD t .any with
    | .bsl b z lo k => (match decide (b < fn.ntmps) with
      | true => aB (lo == 0 && decide (0 < z)) ((s.box b).bind fun cs => aB (decide (k * z ≤ cs.length)) ((cG (cs.take (k * z))).bind fun l =>
        (pY s.boxes ((List.range n).map (fn.ntmps + ·))).bind fun cs' => aB (cs'.all (·.all SV.flat)) (some (.leaf (.sl (Fl.new m) (gT z k l)), cs'))))
      | false => sO P fn n s)
    | _ => sO P fn n s)
  | _ => sO P fn n s
def aLn (P : Program) (fn : Func) (n : Nat) : (Out m) → Option ((SV m) × List (List (SV m)))
  | .norm s => aMb P fn n s
  | .ret s => aMb P fn n s
  | .exit _ _ => none
theorem aJ3 {P : Program} {fn : Func} {n : Nat} {s : St m} {r : (SV m) × List (List (SV m))} (h : aMb P fn n s = some r) : sO P fn n s = some r := by
  unfold aMb at h
  split at h
  · rename_i t hr
    split at h
    · rename_i b z lo k hv
      split at h
      · rename_i hb
        have hb := of_decide_eq_true hb
        obtain ⟨h1, h'⟩ := bG h
        replace h := h'
        clear h'
        simp only [Bool.and_eq_true, beq_iff_eq, decide_eq_true_eq] at h1
        obtain ⟨rfl, hz⟩ := h1
        rw [Option.bind_eq_some_iff] at h
        obtain ⟨cs, hcs, h⟩ := h
        obtain ⟨h2, h⟩ := bG h
        have h2 := of_decide_eq_true h2
        rw [Option.bind_eq_some_iff] at h
        obtain ⟨l, hl, h⟩ := h
        rw [Option.bind_eq_some_iff] at h
        obtain ⟨cs', hcs', h⟩ := h
        obtain ⟨h3, h⟩ := bG h
        have hbox : s.box b = some cs := hcs
        have hres : aGi P fn s = some (.leaf (.sl (Fl.new m) (gT z k l))) := by
          unfold aGi
          rw [hr]
          simp only [aFm, hv, aNk]
          rw [if_pos ⟨hb, trivial⟩, hbox, Option.bind_some, if_pos ⟨h2, hz⟩, hl]
          rfl
        unfold sO
        rw [hres, Option.bind_some]
        rw [show SV.homeOk fn.ntmps n (SV.leaf (aA.sl (Fl.new m) (gT z k l))) = true from rfl]
        simp only [aB]
        rw [hcs', Option.bind_some, h3]
        exact h
      · exact h
    · exact h
  · exact h
theorem aLl {P : Program} {fn : Func} {n : Nat} {o : Out m} {r : (SV m) × List (List (SV m))} (h : aLn P fn n o = some r) : aQt P fn n o = some r := by
  cases o with
  | norm s => exact aJ3 h
  | ret s => exact aJ3 h
  | exit _ _ => simp [aLn] at h
def bL (P : Program) (D : (aP m)) (H : FuncId → fI) (loop : ((St m) → Option (Out m)) → ((St m) → Option (St m)) → (St m) → Option (Out m)) : (aP m) := fun f args boxes =>
  match P.funcs[f]? with
  | some fn => match fn.body with
    | some c => dV P D ((H f).fit fn.ntmps) loop 0 c (St.freeze fn.ntmps (aEw fn args boxes) ((H f).fz 1048576)) (aLn P fn boxes.length)
    | none => none
  | none => none
section
variable {P : Program} {D : (aP m)} {β : Type}
theorem sT {nt : Nat} {mv pu ta : Bool} {o : Oper} {s : (St m)} {k1 k2 : (St m) → Option β} {y : β} (hk : ∀ s, k2 s = some y → k1 s = some y) (h : eU P D nt mv pu ta o s k2 = some y) : eU P D nt mv pu ta o s k1 = some y := by
  rw [aCk, Option.bind_eq_some_iff] at h ⊢
  obtain ⟨e, he, h⟩ := h
  exact ⟨e, he, hk _ h⟩
theorem aOZ {own : Bool} {rk : Nat} {dst : Option Tmp} {t : TypeId} {v : (SV m)} {k : (SV m) → Option β} {y : β} (h : aNQ P own rk dst t v k = some y) : k v = some y := by
  unfold aNQ at h
  split at h
  · split at h
    · exact h
    · exact aQA h
  · rw [Option.bind_eq_some_iff] at h
    obtain ⟨e, _, h⟩ := h
    unfold aFi at h
    split at h
    · split at h
      · rename_i he; subst he; exact h
      · simp at h
    · simp at h
  · unfold aCj at h
    split at h
    · split at h
      · rename_i hc; rw [hc.1, hc.2]; exact h
      · simp at h
    · simp at h
theorem aPZ {s : (St m)} {own pu : Bool} {rk : Nat} {f : FuncId} {args : List (SV m)} {dst : Option Tmp} {t : TypeId} {k1 k2 : (St m) → Option β} {y : β} (hk : ∀ s, k2 s = some y → k1 s = some y) (h : aGV P D s own pu rk f args dst t k2 = some y) : aOI D s pu f args dst k1 = some y := by
  unfold aGV at h
  obtain ⟨h1, h⟩ := bG h
  unfold aOI
  rw [h1]
  simp only [aB]
  split at h
  · obtain ⟨h2, h⟩ := bG h
    rw [if_pos rfl, if_pos (by simpa using h2)]
    rw [Option.bind_eq_some_iff] at h ⊢
    obtain ⟨r, hr, h⟩ := h
    exact ⟨r, hr, hk _ (aOZ h)⟩
  · rw [if_neg (by simp)]
    rw [Option.bind_eq_some_iff] at h ⊢
    obtain ⟨cs, hcs, h⟩ := h
    obtain ⟨h2, h⟩ := bG h
    refine ⟨cs, hcs, ?_⟩
    rw [h2]
    simp only
    rw [Option.bind_eq_some_iff] at h ⊢
    obtain ⟨r, hr, h⟩ := h
    refine ⟨r, hr, hk _ ?_⟩
    have h3 := aKX _ cs r.2 _ y h
    exact aOZ h3
theorem gk {x : Option (Bool × (SV m))} {x' : Option (SV m)} {k1 k2 : (SV m) → Option β} {y : β} (hx : ∀ p, x = some p → p.1 = true → x' = some p.2) (hk : ∀ v, k2 v = some y → k1 v = some y) (h : x.bind (fun p => aB p.1 (k2 p.2)) = some y) : x'.bind k1 = some y := by
  rw [Option.bind_eq_some_iff] at h
  obtain ⟨p, hp, h⟩ := h
  obtain ⟨h1, h2⟩ := bG h
  rw [hx p hp h1, Option.bind_some]
  exact hk _ h2
theorem aGB {s : (St m)} {x : Operand} {b : Bool} (h : s.eval x = .leaf (.bool b)) : refine s x b = s := by
  cases x with
  | tmp t =>
    simp only [refine, St.put]
    have h' : s.tmps.getD t .any = .leaf (.bool b) := h
    have hl : s.tmps[t]? = some (.leaf (.bool b)) := by
      rw [List.getD_eq_getElem?_getD] at h'
      cases hx : s.tmps[t]? with
      | none => rw [hx] at h'; simp at h'
      | some v => rw [hx] at h'; simpa using h'
    have : s.tmps.set t (.leaf (.bool b)) = s.tmps := by
      apply List.ext_getElem?
      intro i
      by_cases hi : t = i
      · subst hi; rw [List.getElem?_set_self (List.getElem?_eq_some_iff.1 hl).1, hl]
      · rw [List.getElem?_set_ne hi]
    rw [this]
  | _ => rfl
theorem aPE {s : (St m)} {t : Tmp} {want : Bool} {x y : (St m) → Option β} : aL4 s t want x y = nQ (s.tmps.getD t .any) want (x s) (y s) := by
  unfold aL4 nQ
  have hr : ∀ b, s.tmps.getD t .any = .leaf (.bool b) → refine s (.tmp t) b = s := fun b hb => aGB (x := .tmp t) hb
  generalize s.tmps.getD t .any = v at hr
  cases v with
  | leaf l =>
    cases l with
    | bool b =>
      simp only [mD]
      by_cases hw : b = want
      · subst hw; simp [hr b rfl]
      · have : b = !want := by cases b <;> cases want <;> simp_all
        subst this
        simp [hr _ rfl]
    | _ => rfl
  | _ => rfl
theorem aKK {nt : Nat} {mv pu ta : Bool} {rk : Nat} {o : Oper} {s : (St m)} {k1 k2 : (St m) → Option β} {y : β} (hk : ∀ s, k2 s = some y → k1 s = some y) (h : eS P D nt mv pu ta rk o s k2 = some y) : eU P D nt mv pu ta o s k1 = some y := by
  cases hop : o.op
  case load t x =>
    simp only [eS, hop] at h
    split at h
    · rename_i c e p hx
      obtain ⟨v, hv, h⟩ := aMF h
      simp only [eU, hop, hx, hv, Option.bind_some]
      exact hk _ h
    · rename_i b p hx
      split at h
      · rename_i ha
        rw [Option.bind_eq_some_iff] at h
        obtain ⟨cs, hcs, h⟩ := h
        obtain ⟨c, hc, h⟩ := aRk h
        have h := aQN h
        simp only [eU, hop, hx, hcs, Option.bind_some]
        rw [if_neg (by simp [ha]), hc]
        exact hk _ h
      · rename_i ha
        rw [Option.bind_eq_some_iff] at h
        obtain ⟨cs, hcs, h⟩ := h
        rw [Option.bind_eq_some_iff] at h
        obtain ⟨n, hn, h⟩ := h
        obtain ⟨hle, h⟩ := bG h
        have hle := of_decide_eq_true hle
        unfold aRQ at h
        rw [Option.bind_eq_some_iff] at h
        obtain ⟨e, he, h⟩ := h
        obtain ⟨v, hv, h⟩ := aMF h
        have hel : e.length = n := by rw [vV he, List.length_take, List.length_drop]; omega
        have hve : v = .agg e := by
          unfold zE at hv
          rw [if_pos ha, hn, Option.bind_some, if_pos (by omega), List.drop_zero, ← hel, List.take_length] at hv
          exact (Option.some.inj hv).symm
        subst hve
        simp only [eU, hop, hx, hcs, Option.bind_some]
        rw [if_pos ha, hn, Option.bind_some, if_pos hle, he]
        exact hk _ h
      · exact sT hk h
    · exact sT hk h
  case store t x y =>
    simp only [eS, hop] at h
    split at h
    · rename_i b p hx
      rw [Option.bind_eq_some_iff] at h
      obtain ⟨cs, hcs, h⟩ := h
      rw [Option.bind_eq_some_iff] at h
      obtain ⟨n, hn, h⟩ := h
      obtain ⟨h1, h⟩ := bG h
      obtain ⟨h2, h⟩ := bG h
      simp only [Bool.and_eq_true, beq_iff_eq, decide_eq_true_eq] at h2
      simp only [eU, hop, hx, hcs, hn, Option.bind_some, h1, aB]
      rw [if_pos h2]
      have := hk _ h
      rw [mR, ← h2.1] at this
      exact this
    · exact sT hk h
  case makeSlice t l c =>
    simp only [eS, hop] at h
    simp only [eU, hop]
    split at h
    · rename_i d hd
      rw [hd]
      simp only
      split at h
      · rename_i hb
        rw [hb]
        simp only
        obtain ⟨h1, h⟩ := bG h
        rw [h1]
        simp only [aB]
        rw [Option.bind_eq_some_iff] at h ⊢
        obtain ⟨p, hp, h⟩ := h
        obtain ⟨h2, h⟩ := bG h
        refine ⟨p.2, aRm hp h2, ?_⟩
        rw [hd] at h
        exact hk _ h
      · simp at h
    · simp at h
  case pick c x z =>
    simp only [eS, hop] at h
    simp only [eU, hop]
    obtain ⟨b, hb, h⟩ := qU h
    rw [hb]
    simp only [nF]
    cases b
    · simp only [aD, aGB hb] at h ⊢; exact hk _ h
    · simp only [aD, aGB hb] at h ⊢; exact hk _ h
  case binOp op t x z u =>
    simp only [eS, hop] at h
    simp only [eU, hop]
    exact gk (fun p hp h1 => aRT hp h1) (fun v => hk _) h
  case convert src dst x =>
    simp only [eS, hop] at h
    simp only [eU, hop]
    exact gk (fun p hp h1 => aQ8 hp h1) (fun v => hk _) h
  case slice t x lo hi mx =>
    cases mx with
    | some m => simp only [eS, hop] at h; exact sT hk h
    | none =>
      simp only [eS, hop] at h
      simp only [eU, hop]
      rw [Option.bind_eq_some_iff] at h
      obtain ⟨l, hl, h⟩ := h
      rw [Option.bind_eq_some_iff] at h
      obtain ⟨r, hr, h⟩ := h
      rw [Option.bind_eq_some_iff] at h
      obtain ⟨p, hp, h⟩ := h
      obtain ⟨h1, h2⟩ := bG h
      simp only [Bool.and_eq_true] at h1
      rw [aQx hl h1.1.1, Option.bind_some, aQx hr h1.1.2, Option.bind_some, aP6 hp h1.2, Option.bind_some]
      exact hk _ h2
  case indexAddr t x i =>
    simp only [eS, hop] at h
    simp only [eU, hop]
    exact gk (fun p hp h1 => aLS hp h1) (fun v => hk _) h
  case index t x i =>
    simp only [eS, hop] at h
    simp only [eU, hop]
    exact gk (fun p hp h1 => aQu hp h1) (fun v => hk _) h
  case call c =>
    cases hc : c.callee with
    | invoke r m => simp only [eS, hop, hc] at h; exact sT hk h
    | value g =>
      simp only [eS, hop, hc] at h
      simp only [eU, hop, hc]
      split at h
      · rename_i f caps hg
        obtain ⟨h1, h⟩ := bG h
        rw [hg]
        simp only [h1, aB]
        exact aPZ hk h
      · simp at h
    | builtin b =>
      cases b
      case append =>
        simp only [eS, hop, hc] at h
        simp only [eU, hop, hc]
        split at h
        · rename_i x z hargs
          rw [hargs]
          simp only
          exact gk (fun p hp h1 => aPe hp h1) (fun v => hk _) h
        · simp at h
      case clear =>
        simp only [eS, hop, hc] at h
        simp only [eU, hop, hc]
        split at h
        · rename_i x hargs
          rw [hargs]
          simp only
          split at h
          · rename_i b z lo n hx
            rw [hx]
            simp only
            rw [Option.bind_eq_some_iff] at h
            obtain ⟨cs, hcs, h⟩ := h
            rw [Option.bind_eq_some_iff] at h
            obtain ⟨t, ht, h⟩ := h
            rw [Option.bind_eq_some_iff] at h
            obtain ⟨e, he, h⟩ := h
            rw [Option.bind_eq_some_iff] at h
            obtain ⟨ze, hze, h⟩ := h
            obtain ⟨h1, h⟩ := bG h
            obtain ⟨h2, h⟩ := bG h
            simp only [Bool.and_eq_true, beq_iff_eq, decide_eq_true_eq] at h1 h2
            have hcl : aHv P c.argTypes cs z lo n = some (mR cs (lo * z) ((List.replicate n ze).flatten.map .leaf)) := by
              have hl : ((List.replicate n ze).flatten.map (SV.leaf (m := m))).length = n * z := by simp [h1.1]
              have ha : (lo + n) * z = lo * z + n * z := Nat.add_mul _ _ _
              simp only [aHv, ht, he, hze, Option.bind_some]
              rw [if_pos ⟨h1, h2⟩, mR, hl, ha]
            rw [hcs, Option.bind_some, hcl, Option.bind_some]
            exact hk _ h
          · simp at h
        · simp at h
      all_goals (simp only [eS, hop, hc] at h; exact sT hk h)
  all_goals (simp only [eS, hop] at h; exact sT hk h)
theorem aPt {nt : Nat} {mv pu ta : Bool} {rk : Nat} {ops : Array Oper} {o : Oper} {s : (St m)} {k1 k2 : (St m) → Option β} {y : β} (hk : ∀ s, k2 s = some y → k1 s = some y) (h : aGU P D nt mv pu ta rk ops o s k2 = some y) : aMN P D nt mv pu ta ops o s k1 = some y := by
  unfold aGU at h
  unfold aMN
  cases hg : o.guard with
  | none => rw [hg] at h; exact aKK hk h
  | some g =>
    obtain ⟨j, want⟩ := g
    rw [hg] at h
    simp only at h ⊢
    cases hj : (ops[j]?).bind (·.dst) with
    | none => rw [hj] at h; simp at h
    | some t =>
      rw [hj] at h
      simp only at h ⊢
      rw [aPE] at h
      unfold nQ at h ⊢
      split at h
      · rename_i b hb
        rw [mD] at h ⊢
        split at h
        · rename_i hbw
          rw [if_pos hbw]
          exact aKK hk h
        · rename_i hbw
          rw [if_neg hbw]
          exact hk _ h
      · exact hk _ h
      · simp at h
theorem aJM {nt : Nat} {mv pu ta : Nat → Bool} {rk : Nat → Nat} {ops : Array Oper} {y : β} : ∀ (l : List Oper) (i : Nat) (s : (St m)) (k1 k2 : (St m) → Option β), (∀ s, k2 s = some y → k1 s = some y) → xQ P D nt mv pu ta rk ops l i s k2 = some y → jP P D nt mv pu ta ops l i s k1 = some y
  | [], i, s, k1, k2, hk, h => hk _ h
  | o :: l, i, s, k1, k2, hk, h => by
    simp only [xQ] at h
    simp only [jP]
    exact aPt (fun s' h' => aJM l (i + 1) s' k1 k2 hk h') h
def Up (loop : ((St m) → Option (Out m)) → ((St m) → Option (St m)) → (St m) → Option (Out m)) : Prop := ∀ body body' again s o, (∀ s o, body s = some o → body' s = some o) → loop body again s = some o → loop body' again s = some o
theorem aQ6 : Up (m := m) cB := by
  intro body body' again s o hb h
  obtain ⟨n, hn⟩ := zL.1 h
  exact zL.2 ⟨n, qT hb n n (Nat.le_refl _) s o hn⟩
theorem aO9 {f1 f2 : (St m) → Option β} {k1 k2 : (Out m) → Option β} {y : β} (hf : ∀ s, f2 s = some y → f1 s = some y) (hk : ∀ o, k2 o = some y → k1 o = some y) : ∀ o, aNA f2 k2 o = some y → aNA f1 k1 o = some y := by
  intro o h
  cases o with
  | norm s => exact hf s h
  | exit id s => exact hk _ h
  | ret s => exact hk _ h
theorem aME {id : Nat} {k1 k2 : (Out m) → Option β} {y : β} (hk : ∀ o, k2 o = some y → k1 o = some y) : ∀ o, rP id k2 o = some y → rP id k1 o = some y := by
  intro o h
  cases o with
  | norm s => exact hk _ h
  | exit id' s =>
    simp only [rP] at h ⊢
    split at h
    · rename_i he; rw [if_pos he]; exact hk _ h
    · rename_i he; rw [if_neg he]; exact hk _ h
  | ret s => exact hk _ h
theorem aO6 {H : fI} {loop : ((St m) → Option (Out m)) → ((St m) → Option (St m)) → (St m) → Option (Out m)} (hL : Up loop) : ∀ (c : Code) (blk : Nat) {β : Type} (s : (St m)) (k1 k2 : (Out m) → Option β) (y : β), (∀ o, k2 o = some y → k1 o = some y) → dV P D H loop blk c s k2 = some y → eC P D H loop blk c s k1 = some y := by
  intro c
  induction c with
  | skip => intro blk β s k1 k2 y hk h; exact hk _ h
  | region id ops draw =>
    intro blk β s k1 k2 y hk h
    simp only [dV] at h
    obtain ⟨hg, h⟩ := bG h
    rw [sP] at h
    simp only [eC, hg, aB]
    exact aJM _ _ _ _ _ (fun s' h' => by rw [sP] at h'; exact hk _ h') h
  | seq a b iha ihb =>
    intro blk β s k1 k2 y hk h
    simp only [dV] at h
    simp only [eC]
    exact iha blk s _ _ y (aO9 (fun s' => ihb blk s' k1 k2 y hk) hk) h
  | cond x a b iha ihb =>
    intro blk β s k1 k2 y hk h
    simp only [dV] at h
    simp only [eC]
    obtain ⟨t, ht, h⟩ := qU h
    rw [ht]
    simp only [nF]
    simp only [sP] at h
    cases t
    · exact ihb blk _ k1 k2 y hk h
    · exact iha blk _ k1 k2 y hk h
  | block id a ih =>
    intro blk β s k1 k2 y hk h
    simp only [dV] at h
    simp only [eC]
    exact ih id s _ _ y (aME hk) h
  | loop a ih =>
    intro blk β s k1 k2 y hk h
    simp only [dV] at h
    simp only [eC]
    rw [Option.bind_eq_some_iff] at h ⊢
    obtain ⟨o, ho, h⟩ := h
    exact ⟨o, hL _ _ _ _ _ (fun s' o' h' => ih blk s' some some o' (fun _ h => h) h') ho, hk _ h⟩
  | exit id => intro blk β s k1 k2 y hk h; exact hk _ h
  | ret => intro blk β s k1 k2 y hk h; exact hk _ h
  | _ => intro blk β s k1 k2 y hk h; simp [dV] at h
theorem aQe {H : FuncId → fI} {loop : ((St m) → Option (Out m)) → ((St m) → Option (St m)) → (St m) → Option (Out m)} (hL : Up loop) {f : FuncId} {a : List (SV m)} {b : List (List (SV m))} {r : (SV m) × List (List (SV m))} (h : bL P D H loop f a b = some r) : aLE P D H loop f a b = some r := by
  unfold bL at h
  unfold aLE
  cases hfn : P.funcs[f]? with
  | none => rw [hfn] at h; simp at h
  | some fn =>
    rw [hfn] at h
    simp only at h ⊢
    cases hc : fn.body with
    | none => rw [hc] at h; simp at h
    | some c =>
      rw [hc] at h
      simp only at h ⊢
      exact aO6 hL c 0 _ _ _ r (fun _ h => aLl h) h
theorem aQj {T : (aJc m)} {H : FuncId → fI} {f : FuncId} {a : List (SV m)} {b : List (List (SV m))} {r : (SV m) × List (List (SV m))} (hT : T f = none) (h : bL P (den P T H) H cB f a b = some r) : den P T H f a b = some r :=
  aRd hT (aQe aQ6 h)
end
end Go.Vs
end
section
namespace Go.Vs
variable {m : Bool}
def sub : Code → List Nat → Code
  | c, [] => c
  | .seq a b, n :: r => if n = 0 then sub a r else sub b r
  | .cond _ a b, n :: r => if n = 0 then sub a r else sub b r
  | .block _ a, _ :: r => sub a r
  | .loop a, _ :: r => sub a r
  | c, _ => c
def aAy (P : Program) (f : FuncId) : Code := match P.funcs[f]? with | some fn => fn.body.getD .skip | none => .skip
def aHg (P : Program) (f : FuncId) : Func := (P.funcs[f]?).getD default
structure Tab where
  mv : List (List Nat)
  boxed : List (List Nat)
  take : List (List Nat)
  clear : List (Nat × List Nat)
  drop : List (Nat × List Nat)
  after : List (List Nat)
  afterB : List (List Nat)
  condA : List (Nat × List Nat × List Nat)
  condB : List (Nat × List Nat × List Nat)
  fz : List (Nat × List Nat)
def Tab.hints (t : Tab) : fI :=
  { nt := 0
    mv := fun r i => (t.mv.getD r []).contains i
    pure := fun r i => !(t.boxed.getD r []).contains i
    take := fun r i => (t.take.getD r []).contains i
    clear := fun b => ((t.clear.find? fun p => p.1 == b).map (·.2)).getD []
    drop := fun b => ((t.drop.find? fun p => p.1 == b).map (·.2)).getD []
    after := fun r => t.after.getD r []
    afterB := fun r => t.afterB.getD r []
    condA := fun b => ((t.condA.find? fun p => p.1 == b).map (·.2)).getD ([], [])
    condB := fun b => ((t.condB.find? fun p => p.1 == b).map (·.2)).getD ([], [])
    fz := fun b => ((t.fz.find? fun p => p.1 == b).map (·.2)).getD [] }
def aR8 : Tab := ⟨[], [], [], [], [], [], [], [], [], []⟩
end Go.Vs
end
section
namespace Go.Vs
variable {m : Bool}
section
variable {α β : Type}
theorem eI (b : Bool) (x : Option α) (f : α → Option β) : (aB b x).bind f = aB b (x.bind f) := by cases b <;> rfl
theorem aCX (b : Bool) (x y : Option α) (f : α → Option β) : (aD b x y).bind f = aD b (x.bind f) (y.bind f) := by cases b <;> rfl
theorem aHG (v : (SV m)) (k : Bool → Option α) (f : α → Option β) : (nF v k).bind f = nF v fun b => (k b).bind f := by unfold nF; split <;> rfl
theorem aK8 (k0 : IntKind) (l : (aA m)) (k : Int → Option α) (f : α → Option β) : (dU k0 l k).bind f = dU k0 l fun n => (k n).bind f := by
  unfold dU; split
  · split <;> rfl
  · rfl
theorem aJq (l : (aA m)) (k : Bool → Option α) (f : α → Option β) : (cN l k).bind f = cN l fun n => (k n).bind f := by unfold cN; split <;> rfl
theorem aLc (l : (aA m)) (k : ByteArray → Option α) (f : α → Option β) : (bU l k).bind f = bU l fun n => (k n).bind f := by unfold bU; split <;> rfl
theorem aP8 (l : (aA m)) (k : Fl m → List (List (aA m)) → Option α) (f : α → Option β) : (slK l k).bind f = slK l fun c n => (k c n).bind f := by unfold slK; split <;> rfl
theorem aEQ (P : Program) (t : TypeId) (l : (aA m)) (k : (aA m) → Option α) (f : α → Option β) : (aH5 P t l k).bind f = aH5 P t l fun n => (k n).bind f := by
  unfold aH5
  split
  · exact aK8 _ _ _ _
  · exact aJq _ _ _
  · exact aLc _ _ _
  · exact aP8 _ _ _
  · rfl
theorem aM2 (e : List (aA m)) (p : Nat) (k : (aA m) → Option α) (f : α → Option β) : (atK e p k).bind f = atK e p fun n => (k n).bind f := by unfold atK; split <;> rfl
theorem yU (P : Program) : ∀ (ts : List TypeId) (e : List (aA m)) (p : Nat) (k : List (aA m) → Option α) (f : α → Option β), (rU P ts e p k).bind f = rU P ts e p fun n => (k n).bind f
  | [], e, p, k, f => rfl
  | t :: ts, e, p, k, f => by
    simp only [rU]
    rw [aM2]
    congr 1
    funext l
    rw [aEQ]
    congr 1
    funext l'
    exact yU P ts e (p + 1) _ f
theorem aJv (P : Program) (t : TypeId) (e : List (aA m)) (p : Nat) (k : (SV m) → Option α) (f : α → Option β) : (aJw P t e p k).bind f = aJw P t e p fun n => (k n).bind f := by
  unfold aJw
  split
  · rw [Option.bind_assoc]
    congr 1
    funext ts
    rw [Option.bind_assoc]
    congr 1
    funext n
    split
    · exact yU P ts e p _ f
    · rfl
  · rw [aM2]
    congr 1
    funext l
    exact aEQ P t l _ f
theorem vS (v : (SV m)) (k : (aA m) → Option α) (f : α → Option β) : (aV v k).bind f = aV v fun n => (k n).bind f := by unfold aV; split <;> rfl
theorem aIV (v : (SV m)) (k : Fl m → List (List (aA m)) → Option α) (f : α → Option β) : (nH v k).bind f = nH v fun c n => (k c n).bind f := by unfold nH; split <;> rfl
theorem aHO (e : TypeId) (v : (SV m)) (k : List (List (aA m)) → Option α) (f : α → Option β) : (gS e v k).bind f = gS e v fun n => (k n).bind f := by
  unfold gS; split
  · split <;> rfl
  · rfl
theorem aNf (v : (SV m)) (k : List (aA m) → Option α) (f : α → Option β) : (dY v k).bind f = dY v fun n => (k n).bind f := by unfold dY; split <;> rfl
theorem aMx (v : (SV m)) (k : Option α) (f : α → Option β) : (aEE v k).bind f = aEE v (k.bind f) := by unfold aEE; split <;> rfl
theorem aMX (v : (SV m)) (k : List (SV m) → Option α) (f : α → Option β) : (jI v k).bind f = jI v fun n => (k n).bind f := by unfold jI; split <;> rfl
theorem aKc (l : List (SV m)) (k : (SV m) → List (SV m) → Option α) (f : α → Option β) : (eX l k).bind f = eX l fun v r => (k v r).bind f := by unfold eX; split <;> rfl
theorem aJD (l : List (SV m)) (k : Option α) (f : α → Option β) : (iA l k).bind f = iA l (k.bind f) := by unfold iA; split <;> rfl
theorem aBz (P : Program) (own : Bool) (t : TypeId) (v : (SV m)) (k : (SV m) → Option α) (f : α → Option β) : (aCz P own t v k).bind f = aCz P own t v fun n => (k n).bind f := by
  unfold aCz
  split
  · split
    · exact aHO _ _ _ _
    · exact aIV _ _ _
  · rw [aNf]
    congr 1
    funext cs
    rw [Option.bind_assoc]
    congr 1
    funext ts
    rw [eI]
    congr 1
    exact yU P ts cs 0 _ f
  · exact aMx _ _ _
  · rw [vS]
    congr 1
    funext l
    exact aEQ P t l _ f
  · rfl
theorem aHH (P : Program) : ∀ (ts : List TypeId) (l : List (SV m)) (k : List (SV m) → Option α) (f : α → Option β), (aBA P ts l k).bind f = aBA P ts l fun n => (k n).bind f
  | [], l, k, f => aJD l _ f
  | t :: ts, l, k, f => by
    simp only [aBA]
    rw [aKc]
    congr 1
    funext v r
    rw [aBz]
    congr 1
    funext v'
    exact aHH P ts r _ f
theorem aOl (P : Program) (own : Bool) (t : TypeId) (v : (SV m)) (k : (SV m) → Option α) (f : α → Option β) : (aLr P own t v k).bind f = aLr P own t v fun n => (k n).bind f := by
  unfold aLr
  split
  · rw [aMX]
    congr 1
    funext vs
    exact aHH P _ vs _ f
  · exact aBz P own t v k f
theorem aNZ (c d : (SV m)) (k : (SV m) → Option α) (f : α → Option β) : (aK9 c d k).bind f = aK9 c d fun n => (k n).bind f := by
  unfold aK9
  split
  · rw [vS]; congr 1; funext l; exact aK8 _ _ _ _
  · rw [vS]; congr 1; funext l; exact aJq _ _ _
  · rw [vS]; congr 1; funext l; exact aLc _ _ _
  · exact aIV _ _ _
  · exact aHO _ _ _ _
  · rfl
theorem aHW : ∀ (cs l : List (SV m)) (k : List (SV m) → Option α) (f : α → Option β), (aCO cs l k).bind f = aCO cs l fun n => (k n).bind f
  | [], l, k, f => aJD l _ f
  | c :: cs, l, k, f => by
    simp only [aCO]
    rw [aKc]
    congr 1
    funext v r
    rw [aNZ]
    congr 1
    funext v'
    exact aHW cs r _ f
theorem aPq (w : Bool) (c d : List (SV m)) (k : List (SV m) → Option α) (f : α → Option β) : (aRp w c d k).bind f = aRp w c d fun n => (k n).bind f := by
  cases w
  · exact aHW c d k f
  · rfl
theorem aHU : ∀ (ws : List Bool) (cs l : List (List (SV m))) (k : List (List (SV m)) → Option α) (f : α → Option β), (wX ws cs l k).bind f = wX ws cs l fun n => (k n).bind f
  | [], _, l, k, f => by simp only [wX]; unfold mL; split <;> rfl
  | w :: ws, [], l, k, f => by simp only [wX]; unfold mL; split <;> rfl
  | w :: ws, c :: cs, l, k, f => by
    simp only [wX]
    unfold pP
    split
    · rw [aPq]
      congr 1
      funext v'
      exact aHU ws cs _ _ f
    · rfl
theorem aO7 (cs : List (SV m)) (p : Nat) (k : (SV m) → Option α) (f : α → Option β) : (aL7 cs p k).bind f = aL7 cs p fun n => (k n).bind f := by unfold aL7; split <;> rfl
theorem aN4 (P : Program) (t : TypeId) (c : (SV m)) (k : (SV m) → Option α) (f : α → Option β) : (aK1 P t c k).bind f = aK1 P t c fun n => (k n).bind f := by
  unfold aK1; split
  · exact aBz P false t _ k f
  · rfl
theorem aML (e : TypeId) (v : (SV m)) (k : List (List (aA m)) → Option α) (f : α → Option β) : (aFi e v k).bind f = aFi e v fun n => (k n).bind f := by
  unfold aFi; split
  · split <;> rfl
  · rfl
theorem aMo (i z : Nat) (v : (SV m)) (k : Nat → Nat → Option α) (f : α → Option β) : (aCj i z v k).bind f = aCj i z v fun a n => (k a n).bind f := by
  unfold aCj; split
  · split <;> rfl
  · rfl
theorem aKD (P : Program) (own : Bool) (rk : Nat) (dst : Option Tmp) (t : TypeId) (v : (SV m)) (k : (SV m) → Option α) (f : α → Option β) : (aNQ P own rk dst t v k).bind f = aNQ P own rk dst t v fun n => (k n).bind f := by
  unfold aNQ; split
  · split
    · rfl
    · exact aOl P own t v k f
  · rw [Option.bind_assoc]; congr 1; funext e; exact aML _ _ _ _
  · exact aMo _ _ _ _ _
variable {P : Program} {D : (aP m)}
theorem aMW (s : (St m)) (own pu : Bool) (rk : Nat) (g : FuncId) (args : List (SV m)) (dst : Option Tmp) (t : TypeId) (k : (St m) → Option α) (f : α → Option β) : (aGV P D s own pu rk g args dst t k).bind f = aGV P D s own pu rk g args dst t fun n => (k n).bind f := by
  unfold aGV
  rw [eI]
  congr 1
  split
  · rw [eI, Option.bind_assoc]
    congr 1
    congr 1
    funext r
    exact aKD _ _ _ _ _ _ _ _
  · rw [Option.bind_assoc]
    congr 1
    funext cs
    rw [eI, Option.bind_assoc]
    congr 1
    congr 1
    funext r
    rw [aHU]
    congr 1
    funext bs
    exact aKD _ _ _ _ _ _ _ _
theorem sL {nt : Nat} {mv pu ta : Bool} {o : Oper} {s : (St m)} (k : (St m) → Option α) (f : α → Option β) : (eU P D nt mv pu ta o s k).bind f = eU P D nt mv pu ta o s fun n => (k n).bind f := by
  rw [aCk, aCk, Option.bind_assoc]
theorem aJC (x : Option (Bool × (SV m))) (k : (SV m) → Option α) (f : α → Option β) : (x.bind fun p => aB p.1 (k p.2)).bind f = x.bind fun p => aB p.1 ((k p.2).bind f) := by
  rw [Option.bind_assoc]; congr 1; funext p; exact eI _ _ _
theorem aI0 {nt : Nat} {mv pu ta : Bool} {rk : Nat} {o : Oper} {s : (St m)} (k : (St m) → Option α) (f : α → Option β) : (eS P D nt mv pu ta rk o s k).bind f = eS P D nt mv pu ta rk o s fun n => (k n).bind f := by
  cases hop : o.op
  case pick c x z =>
    simp only [eS, hop]
    rw [aHG]
    congr 1
    funext b
    rw [aCX]
  case load t x =>
    simp only [eS, hop]
    split
    · exact aJv P t _ _ _ f
    · split
      · rw [Option.bind_assoc]
        congr 1
        funext cs
        rw [aO7]
        congr 1
        funext c
        exact aN4 P t c _ f
      · rw [Option.bind_assoc]
        congr 1
        funext cs
        rw [Option.bind_assoc]
        congr 1
        funext n
        rw [eI]
        unfold aRQ
        rw [Option.bind_assoc]
        congr 2
        funext e
        exact aJv P t e 0 _ f
      · exact sL k f
    · exact sL k f
  case store t x y =>
    simp only [eS, hop]
    split
    · rw [Option.bind_assoc]
      congr 1
      funext cs
      rw [Option.bind_assoc]
      congr 1
      funext n
      rw [eI, eI]
    · exact sL k f
  case makeSlice t l c =>
    simp only [eS, hop]
    split
    · split
      · rw [eI, Option.bind_assoc]
        congr 1
        congr 1
        funext p
        exact eI _ _ _
      · rfl
    · rfl
  case binOp op t x z u => simp only [eS, hop]; exact aJC _ (fun v => k (s.put o.dst v)) f
  case convert src dst x => simp only [eS, hop]; exact aJC _ (fun v => k (s.put o.dst v)) f
  case slice t x lo hi mx =>
    cases mx with
    | some m => simp only [eS, hop]; exact sL k f
    | none =>
      simp only [eS, hop]
      rw [Option.bind_assoc]; congr 1; funext l
      rw [Option.bind_assoc]; congr 1; funext h
      rw [Option.bind_assoc]; congr 1; funext p
      exact eI _ _ _
  case indexAddr t x i => simp only [eS, hop]; exact aJC _ (fun v => k (s.put o.dst v)) f
  case index t x i => simp only [eS, hop]; exact aJC _ (fun v => k (s.put o.dst v)) f
  case call c =>
    cases hc : c.callee with
    | invoke r m => simp only [eS, hop, hc]; exact sL k f
    | value g =>
      simp only [eS, hop, hc]
      split
      · rw [eI, aMW]
      · rfl
    | builtin b =>
      cases b
      case append =>
        simp only [eS, hop, hc]
        split
        · rename_i x z _
          exact aJC _ (fun v => k ((s.take x).put o.dst v)) f
        · rfl
      case clear =>
        simp only [eS, hop, hc]
        split
        · split
          · rw [Option.bind_assoc]; congr 1; funext cs
            rw [Option.bind_assoc]; congr 1; funext t
            rw [Option.bind_assoc]; congr 1; funext e
            rw [Option.bind_assoc]; congr 1; funext ze
            rw [eI, eI]
          · rfl
        · rfl
      all_goals (simp only [eS, hop, hc]; exact sL k f)
  all_goals (simp only [eS, hop]; exact sL k f)
theorem aNV {nt : Nat} {mv pu ta : Bool} {rk : Nat} {ops : Array Oper} {o : Oper} {s : (St m)} (k : (St m) → Option α) (f : α → Option β) : (aGU P D nt mv pu ta rk ops o s k).bind f = aGU P D nt mv pu ta rk ops o s fun n => (k n).bind f := by
  unfold aGU
  split
  · exact aI0 k f
  · split
    · unfold aL4
      split
      · rw [aCX, aI0]
      · rfl
      · rfl
    · rfl
theorem aH2 {nt : Nat} {mv pu ta : Nat → Bool} {rk : Nat → Nat} {ops : Array Oper} : ∀ (l : List Oper) (i : Nat) (s : (St m)) (k : (St m) → Option α) (f : α → Option β), (xQ P D nt mv pu ta rk ops l i s k).bind f = xQ P D nt mv pu ta rk ops l i s fun n => (k n).bind f
  | [], i, s, k, f => rfl
  | o :: l, i, s, k, f => by
    simp only [xQ]
    rw [aNV]
    congr 1
    funext s'
    exact aH2 l (i + 1) s' k f
end
theorem aJ1 {P : Program} {D : (aP m)} {H : fI} {loop : ((St m) → Option (Out m)) → ((St m) → Option (St m)) → (St m) → Option (Out m)} : ∀ (c : Code) (blk : Nat) {β γ : Type} (s : (St m)) (k : (Out m) → Option β) (f : β → Option γ), (dV P D H loop blk c s k).bind f = dV P D H loop blk c s fun o => (k o).bind f := by
  intro c
  induction c with
  | skip => intro blk β γ s k f; rfl
  | region id ops draw =>
    intro blk β γ s k f
    simp only [dV, sP]
    rw [eI, aH2]
  | seq a b iha ihb =>
    intro blk β γ s k f
    simp only [dV]
    rw [iha]
    congr 1
    funext o
    cases o with
    | norm s' => exact ihb blk s' k f
    | exit id s' => rfl
    | ret s' => rfl
  | cond x a b iha ihb =>
    intro blk β γ s k f
    simp only [dV, sP]
    rw [aHG]
    congr 1
    funext t
    rw [aCX, iha, ihb]
  | block id a ih =>
    intro blk β γ s k f
    simp only [dV]
    rw [ih]
    congr 1
    funext o
    cases o with
    | norm s' => rfl
    | exit id' s' => simp only [rP]; split <;> rfl
    | ret s' => rfl
  | loop a ih => intro blk β γ s k f; simp only [dV]; rw [Option.bind_assoc]
  | exit id => intro blk β γ s k f; rfl
  | ret => intro blk β γ s k f; rfl
  | _ => intro blk β γ s k f; rfl
def aRx (ts bs : List Nat) (L : (St m) → Option (Out m)) : (Out m) → Option (Out m)
  | .norm s => (s.again ts bs).bind L
  | .exit id s => some (.exit id s)
  | .ret s => some (.ret s)
def aOu (P : Program) (D : (aP m)) (H : fI) (loop : ((St m) → Option (Out m)) → ((St m) → Option (St m)) → (St m) → Option (Out m)) (blk : Nat) (c : Code) (L : (St m) → Option (Out m)) (s : (St m)) : Option (Out m) :=
  (s.again (H.clear blk) (H.drop blk)).bind fun s => dV P D H loop blk c s (aRx (H.clear blk) (H.drop blk) L)
noncomputable def aKS (P : Program) (D : (aP m)) (H : fI) (blk : Nat) (c : Code) : (St m) → Option (Out m) := cB (fun s => dV P D H cB blk c s some) (fun s => s.again (H.clear blk) (H.drop blk))
theorem aBW {α : Type} (x : α) (ts : List Nat) : ∀ (l : List α), (∀ t ∈ ts, l[t]? = none ∨ l[t]? = some x) → ts.foldl (fun l t => l.set t x) l = l := by
  induction ts with
  | nil => intro l _; rfl
  | cons t ts ih =>
    intro l h
    have h0 : l.set t x = l := by
      rcases h t (by simp) with h | h
      · rw [List.set_eq_of_length_le (by simpa using h)]
      · apply List.ext_getElem?
        intro i
        by_cases hi : t = i
        · subst hi
          rw [List.getElem?_set_self (List.getElem?_eq_some_iff.1 h).1, h]
        · rw [List.getElem?_set_ne hi]
    rw [List.foldl_cons, h0]
    exact ih l fun u hu => h u (by simp [hu])
theorem aEe {α : Type} (x : α) (ts : List Nat) : ∀ (l : List α), ∀ t ∈ ts, (ts.foldl (fun l t => l.set t x) l)[t]? = none ∨ (ts.foldl (fun l t => l.set t x) l)[t]? = some x := by
  have keep : ∀ (ts : List Nat) (l : List α) (t : Nat), (l[t]? = none ∨ l[t]? = some x) → ((ts.foldl (fun l t => l.set t x) l)[t]? = none ∨ (ts.foldl (fun l t => l.set t x) l)[t]? = some x) := by
    intro ts
    induction ts with
    | nil => intro l t h; exact h
    | cons u ts ih =>
      intro l t h
      rw [List.foldl_cons]
      refine ih _ t ?_
      by_cases hu : u = t
      · subst hu
        by_cases hl : u < l.length
        · right; exact List.getElem?_set_self hl
        · left; exact List.getElem?_eq_none (by simpa using hl)
      · rw [List.getElem?_set_ne hu]; exact h
  induction ts with
  | nil => intro l t h; simp at h
  | cons u ts ih =>
    intro l t ht
    rw [List.foldl_cons]
    by_cases h : t ∈ ts
    · exact ih _ t h
    · have : t = u := by
        rcases List.mem_cons.1 ht with h' | h'
        · exact h'
        · exact absurd h' h
      subst this
      refine keep ts _ t ?_
      by_cases hl : t < l.length
      · right; exact List.getElem?_set_self hl
      · left; exact List.getElem?_eq_none (by simpa using hl)
theorem aNu (s : (St m)) (ts bs : List Nat) : (s.forget ts bs).forget ts bs = s.forget ts bs := by
  unfold St.forget
  congr 1
  · exact aBW _ _ _ (aEe _ _ _)
  · exact aBW _ _ _ (aEe _ _ _)
theorem aN9 {s c : (St m)} {ts bs : List Nat} (h : s.again ts bs = some c) : c.again ts bs = some c := by
  unfold St.again at h ⊢
  obtain ⟨h1, h2⟩ := bG h
  simp only [Option.some.injEq] at h2
  subst h2
  rw [aNu, h1]
  rfl
theorem aNi (P : Program) (D : (aP m)) (H : fI) (blk : Nat) (c : Code) (s : (St m)) : aKS P D H blk c s = (s.again (H.clear blk) (H.drop blk)).bind (aKS P D H blk c) := by
  unfold aKS
  rw [aHB]
  cases h : s.again (H.clear blk) (H.drop blk) with
  | none => rfl
  | some c' =>
    simp only [Option.bind_some]
    rw [aHB _ _ c', aN9 h]
    rfl
theorem aOm (P : Program) (D : (aP m)) (H : fI) (blk : Nat) (c : Code) (s : (St m)) : aKS P D H blk c s = aOu P D H cB blk c (aKS P D H blk c) s := by
  show cB _ _ s = _
  rw [aHB]
  unfold aOu
  congr 1
  funext s'
  rw [aJ1]
  congr 1
  funext o
  cases o with
  | norm s2 => exact aNi P D H blk c s2
  | exit id s2 => rfl
  | ret s2 => rfl
end Go.Vs
end
section
namespace Go.Vs
variable {m : Bool}
def fS : Nat → Code → List Nat → Nat
  | b, _, [] => b
  | b, .seq x y, n :: r => if n = 0 then fS b x r else fS b y r
  | b, .cond _ x y, n :: r => if n = 0 then fS b x r else fS b y r
  | _, .block id x, _ :: r => fS id x r
  | b, .loop x, _ :: r => fS b x r
  | b, _, _ => b
def aJB {β : Type} (s : St m) (ts bs : List Nat) (k : (St m) → Option β) : Option β := aB ((s.forget ts bs).noBox bs) (k (s.forget ts bs))
theorem aI4 {β : Type} (s : St m) (ts bs : List Nat) (k : (St m) → Option β) : (s.again ts bs).bind k = aJB s ts bs k := by
  unfold St.again aJB
  cases (s.forget ts bs).noBox bs <;> rfl
def aGW {β : Type} (ts bs : List Nat) (L : (St m) → Option β) (k : (Out m) → Option β) : (Out m) → Option β
  | .norm s => aJB s ts bs L
  | .exit id s => k (.exit id s)
  | .ret s => k (.ret s)
noncomputable def fE {β : Type} (P : Program) (D : (aP m)) (H : fI) : Nat → Code → List Nat → ((Out m) → Option β) → (Out m) → Option β
  | _, _, [], k => k
  | b, .seq x y, n :: r, k => if n = 0 then fE P D H b x r (aNA (fun s => dV P D H cB b y s k) k) else fE P D H b y r k
  | b, .cond _ x y, n :: r, k => if n = 0 then fE P D H b x r k else fE P D H b y r k
  | _, .block id x, _ :: r, k => fE P D H id x r (rP id k)
  | b, .loop x, _ :: r, k => fE P D H b x r (aGW (H.clear b) (H.drop b) (fun s => dV P D H cB b (.loop x) s k) k)
  | _, _, _, k => k
noncomputable def atF (P : Program) (D : (aP m)) (H : FuncId → fI) (f : FuncId) (p : List Nat) (n : Nat) (s : (St m)) : Option ((SV m) × List (List (SV m))) :=
  dV P D ((H f).fit (aHg P f).ntmps) cB (fS 0 (aAy P f) p) (sub (aAy P f) p) s (fE P D ((H f).fit (aHg P f).ntmps) 0 (aAy P f) p (aLn P (aHg P f) n))
theorem aPn {β : Type} (P : Program) (D : (aP m)) (H : fI) (b : Nat) (c : Code) (s : (St m)) (k : (Out m) → Option β) :
    dV P D H cB b (.loop c) s k = (s.again (H.clear b) (H.drop b)).bind fun s => dV P D H cB b c s (aGW (H.clear b) (H.drop b) (fun s => dV P D H cB b (.loop c) s k) k) := by
  have h0 : ∀ s, dV P D H cB b (.loop c) s k = (aKS P D H b c s).bind k := fun s => rfl
  rw [h0, aOm]
  unfold aOu
  rw [Option.bind_assoc]
  congr 1
  funext s'
  rw [aJ1]
  congr 1
  funext o
  cases o with
  | norm s2 =>
    simp only [aRx, aGW, ← aI4, Option.bind_assoc]
    congr 1
  | exit id s2 => rfl
  | ret s2 => rfl
end Go.Vs
end
section
namespace Go.Vs
variable {m : Bool}
section
variable {β : Type}
def wD (P : Program) (D : (aP m)) (H : fI) (nm : List (List Nat)) (J : List Nat × (St m) → Option β) : List Nat → Nat → Code → (St m) → ((Out m) → Option β) → Option β
  | _, _, .skip, s, k => k (.norm s)
  | _, _, .region id ops draw, s, k => aB (!draw || wT (H.mv id) (H.pure id) (H.take id) ops) (tG (St.freeze H.nt s (H.fz (4194304 + id))) fun s => xQ P D H.nt (H.mv id) (H.pure id) (H.take id) (aR7 H id) ops ops.toList 0 s fun s' => tG (St.freeze H.nt (s'.tidy (H.after id) (H.afterB id)) (H.fz id)) fun s' => k (.norm s'))
  | r, blk, .seq a b, s, k =>
    if nm.contains (0 :: r).reverse then J ((0 :: r).reverse, s) else wD P D H nm J (0 :: r) blk a s (aNA (fun s' => if nm.contains (1 :: r).reverse then J ((1 :: r).reverse, s') else wD P D H nm J (1 :: r) blk b s' k) k)
  | r, blk, .cond c a b, s, k => nF (s.eval c) fun t => aD t
      (tG (s.dropC H.condA c) fun s => if nm.contains (0 :: r).reverse then J ((0 :: r).reverse, s) else wD P D H nm J (0 :: r) blk a s k)
      (tG (s.dropC H.condB c) fun s => if nm.contains (1 :: r).reverse then J ((1 :: r).reverse, s) else wD P D H nm J (1 :: r) blk b s k)
  | r, _, .block id a, s, k => if nm.contains (0 :: r).reverse then J ((0 :: r).reverse, s) else wD P D H nm J (0 :: r) id a s (rP id k)
  | r, blk, .loop a, s, k => aJB s (H.clear blk) (H.drop blk) fun s => if nm.contains (0 :: r).reverse then J ((0 :: r).reverse, s) else wD P D H nm J (0 :: r) blk a s (aGW (H.clear blk) (H.drop blk) (fun s => J (r.reverse, s)) k)
  | _, _, .exit id, s, k => k (.exit id s)
  | _, _, .ret, s, k => k (.ret s)
  | _, _, _, _, _ => none
theorem kP : ∀ (p : List Nat) (c : Code) (q : List Nat), sub c (p ++ q) = sub (sub c p) q
  | [], c, q => by simp [sub]
  | n :: p, c, q => by
    cases c <;> simp only [List.cons_append, sub]
    case seq a b => split <;> exact kP p _ q
    case cond x a b => split <;> exact kP p _ q
    case block id a => exact kP p _ q
    case loop a => exact kP p _ q
    all_goals (cases q <;> rfl)
theorem hX : ∀ (p : List Nat) (b : Nat) (c : Code) (q : List Nat), fS b c (p ++ q) = fS (fS b c p) (sub c p) q
  | [], b, c, q => by simp [sub, fS]
  | n :: p, b, c, q => by
    cases c <;> simp only [List.cons_append, sub, fS]
    case seq x y => split <;> exact hX p _ _ q
    case cond x x y => split <;> exact hX p _ _ q
    case block id x => exact hX p _ _ q
    case loop x => exact hX p _ _ q
    all_goals (cases q <;> rfl)
theorem gU (P : Program) (D : (aP m)) (H : fI) : ∀ (p : List Nat) (b : Nat) (c : Code) (q : List Nat) (k : (Out m) → Option β), fE P D H b c (p ++ q) k = fE P D H (fS b c p) (sub c p) q (fE P D H b c p k)
  | [], b, c, q, k => by simp [sub, fS, fE]
  | n :: p, b, c, q, k => by
    cases c <;> simp only [List.cons_append, sub, fS, fE]
    case seq x y => split <;> exact gU P D H p _ _ q _
    case cond x x y => split <;> exact gU P D H p _ _ q _
    case block id x => exact gU P D H p _ _ q _
    case loop x => exact gU P D H p _ _ q _
    all_goals (cases q <;> rfl)
theorem aMJ {P : Program} {D : (aP m)} {H : fI} {nm : List (List Nat)} {J : List Nat × (St m) → Option β} {root : Code} {kE : (Out m) → Option β}
    (hJ : ∀ p s, J (p, s) = dV P D H cB (fS 0 root p) (sub root p) s (fE P D H 0 root p kE)) :
    ∀ (c : Code) (r : List Nat) (blk : Nat) (s : (St m)) (k : (Out m) → Option β), sub root r.reverse = c → fS 0 root r.reverse = blk → fE P D H 0 root r.reverse kE = k → wD P D H nm J r blk c s k = dV P D H cB blk c s k := by
  intro c
  induction c with
  | skip => intro r blk s k _ _ _; rfl
  | region id ops draw => intro r blk s k _ _ _; rfl
  | seq a b iha ihb =>
    intro r blk s k hc hb hk
    have ha0 : sub root (0 :: r).reverse = a := by rw [List.reverse_cons, kP, hc]; simp [sub]
    have ha1 : fS 0 root (0 :: r).reverse = blk := by rw [List.reverse_cons, hX, hc, hb]; simp [fS]
    have ha2 : fE P D H 0 root (0 :: r).reverse kE = aNA (fun s => dV P D H cB blk b s k) k := by rw [List.reverse_cons, gU, hc, hb, hk]; simp [fE]
    have hb0 : sub root (1 :: r).reverse = b := by rw [List.reverse_cons, kP, hc]; simp [sub]
    have hb1 : fS 0 root (1 :: r).reverse = blk := by rw [List.reverse_cons, hX, hc, hb]; simp [fS]
    have hb2 : fE P D H 0 root (1 :: r).reverse kE = k := by rw [List.reverse_cons, gU, hc, hb, hk]; simp [fE]
    have eb : (fun s' => if nm.contains (1 :: r).reverse then J ((1 :: r).reverse, s') else wD P D H nm J (1 :: r) blk b s' k) = fun s' => dV P D H cB blk b s' k := by
      funext s'
      split
      · rw [hJ, hb0, hb1, hb2]
      · exact ihb _ _ _ _ hb0 hb1 hb2
    simp only [wD, dV]
    rw [eb]
    split
    · rw [hJ, ha0, ha1, ha2]
    · exact iha _ _ _ _ ha0 ha1 ha2
  | cond x a b iha ihb =>
    intro r blk s k hc hb hk
    have ha0 : sub root (0 :: r).reverse = a := by rw [List.reverse_cons, kP, hc]; simp [sub]
    have ha1 : fS 0 root (0 :: r).reverse = blk := by rw [List.reverse_cons, hX, hc, hb]; simp [fS]
    have ha2 : fE P D H 0 root (0 :: r).reverse kE = k := by rw [List.reverse_cons, gU, hc, hb, hk]; simp [fE]
    have hb0 : sub root (1 :: r).reverse = b := by rw [List.reverse_cons, kP, hc]; simp [sub]
    have hb1 : fS 0 root (1 :: r).reverse = blk := by rw [List.reverse_cons, hX, hc, hb]; simp [fS]
    have hb2 : fE P D H 0 root (1 :: r).reverse kE = k := by rw [List.reverse_cons, gU, hc, hb, hk]; simp [fE]
    simp only [wD, dV, sP]
    congr 1
    funext t
    congr 1
    · split
      · rw [hJ, ha0, ha1, ha2]
      · exact iha _ _ _ _ ha0 ha1 ha2
    · split
      · rw [hJ, hb0, hb1, hb2]
      · exact ihb _ _ _ _ hb0 hb1 hb2
  | block id a ih =>
    intro r blk s k hc hb hk
    have ha0 : sub root (0 :: r).reverse = a := by rw [List.reverse_cons, kP, hc]; simp [sub]
    have ha1 : fS 0 root (0 :: r).reverse = id := by rw [List.reverse_cons, hX, hc, hb]; simp [fS]
    have ha2 : fE P D H 0 root (0 :: r).reverse kE = rP id k := by rw [List.reverse_cons, gU, hc, hb, hk]; simp [fE]
    simp only [wD, dV]
    split
    · rw [hJ, ha0, ha1, ha2]
    · exact ih _ _ _ _ ha0 ha1 ha2
  | loop a ih =>
    intro r blk s k hc hb hk
    have ha0 : sub root (0 :: r).reverse = a := by rw [List.reverse_cons, kP, hc]; simp [sub]
    have ha1 : fS 0 root (0 :: r).reverse = blk := by rw [List.reverse_cons, hX, hc, hb]; simp [fS]
    have eL : (fun s => J (r.reverse, s)) = fun s => dV P D H cB blk (.loop a) s k := by funext s'; rw [hJ, hc, hb, hk]
    have ha2 : fE P D H 0 root (0 :: r).reverse kE = aGW (H.clear blk) (H.drop blk) (fun s => dV P D H cB blk (.loop a) s k) k := by rw [List.reverse_cons, gU, hc, hb, hk]; simp [fE]
    simp only [wD]
    rw [aPn, aI4, eL]
    unfold aJB
    congr 1
    simp only
    split
    · rw [hJ, ha0, ha1, ha2]
    · exact ih _ _ _ _ ha0 ha1 ha2
  | exit id => intro r blk s k _ _ _; rfl
  | ret => intro r blk s k _ _ _; rfl
  | _ => intro r blk s k _ _ _; rfl
end
noncomputable def yK {β : Type} (P : Program) (D : (aP m)) (H : fI) (nm : List (List Nat)) (J : List Nat × (St m) → Option β) : List Nat → Nat → Code → List Nat → ((Out m) → Option β) → (Out m) → Option β
  | _, _, _, [], k => k
  | r, b, .seq x y, n :: p, k => if n = 0 then yK P D H nm J (n :: r) b x p (aNA (fun s => if nm.contains (1 :: r).reverse then J ((1 :: r).reverse, s) else wD P D H nm J (1 :: r) b y s k) k) else yK P D H nm J (n :: r) b y p k
  | r, b, .cond _ x y, n :: p, k => if n = 0 then yK P D H nm J (n :: r) b x p k else yK P D H nm J (n :: r) b y p k
  | r, _, .block id x, n :: p, k => yK P D H nm J (n :: r) id x p (rP id k)
  | r, b, .loop x, n :: p, k => yK P D H nm J (n :: r) b x p (aGW (H.clear b) (H.drop b) (fun s => J (r.reverse, s)) k)
  | _, _, _, _, k => k
theorem aQf {β : Type} {P : Program} {D : (aP m)} {H : fI} {nm : List (List Nat)} {J : List Nat × (St m) → Option β} {root : Code} {kE : (Out m) → Option β}
    (hJ : ∀ p s, J (p, s) = dV P D H cB (fS 0 root p) (sub root p) s (fE P D H 0 root p kE)) :
    ∀ (p : List Nat) (c : Code) (r : List Nat) (blk : Nat) (k : (Out m) → Option β), sub root r.reverse = c → fS 0 root r.reverse = blk → fE P D H 0 root r.reverse kE = k → yK P D H nm J r blk c p k = fE P D H blk c p k := by
  intro p
  induction p with
  | nil => intro c r blk k _ _ _; simp [yK, fE]
  | cons n p ih =>
    intro c r blk k hc hb hk
    have hs : ∀ n, sub root (n :: r).reverse = sub c [n] := fun n => by rw [List.reverse_cons, kP, hc]
    have hbl : ∀ n, fS 0 root (n :: r).reverse = fS blk c [n] := fun n => by rw [List.reverse_cons, hX, hc, hb]
    have hkk : ∀ n, fE P D H 0 root (n :: r).reverse kE = fE P D H blk c [n] k := fun n => by rw [List.reverse_cons, gU, hc, hb, hk]
    cases c with
    | seq x y =>
      have hb0 : sub root (1 :: r).reverse = y := by rw [hs]; simp [sub]
      have hb1 : fS 0 root (1 :: r).reverse = blk := by rw [hbl]; simp [fS]
      have hb2 : fE P D H 0 root (1 :: r).reverse kE = k := by rw [hkk]; simp [fE]
      have eb : (fun s => if nm.contains (1 :: r).reverse then J ((1 :: r).reverse, s) else wD P D H nm J (1 :: r) blk y s k) = fun s => dV P D H cB blk y s k := by
        funext s'
        split
        · rw [hJ, hb0, hb1, hb2]
        · exact aMJ hJ _ _ _ _ _ hb0 hb1 hb2
      simp only [yK, fE]
      rw [eb]
      by_cases hn : n = 0
      · subst hn
        simp only [if_true]
        exact ih _ _ _ _ (by rw [hs]; simp [sub]) (by rw [hbl]; simp [fS]) (by rw [hkk]; simp [fE])
      · simp only [hn, if_false]
        exact ih _ _ _ _ (by rw [hs]; simp [sub, hn]) (by rw [hbl]; simp [fS, hn]) (by rw [hkk]; simp [fE, hn])
    | cond z x y =>
      simp only [yK, fE]
      by_cases hn : n = 0
      · subst hn
        simp only [if_true]
        exact ih _ _ _ _ (by rw [hs]; simp [sub]) (by rw [hbl]; simp [fS]) (by rw [hkk]; simp [fE])
      · simp only [hn, if_false]
        exact ih _ _ _ _ (by rw [hs]; simp [sub, hn]) (by rw [hbl]; simp [fS, hn]) (by rw [hkk]; simp [fE, hn])
    | block id x =>
      simp only [yK, fE]
      exact ih _ _ _ _ (by rw [hs]; simp [sub]) (by rw [hbl]; simp [fS]) (by rw [hkk]; simp [fE])
    | loop x =>
      have eL : (fun s => J (r.reverse, s)) = fun s => dV P D H cB blk (.loop x) s k := by funext s'; rw [hJ, hc, hb, hk]
      simp only [yK, fE]
      rw [eL]
      exact ih _ _ _ _ (by rw [hs]; simp [sub]) (by rw [hbl]; simp [fS]) (by rw [hkk]; simp [fE])
    | _ => simp [yK, fE]
noncomputable def aQJ (P : Program) (D : (aP m)) (H : FuncId → fI) (f : FuncId) (nm : List (List Nat)) (n : Nat) (J : List Nat × (St m) → Option ((SV m) × List (List (SV m)))) (x : List Nat × (St m)) : Option ((SV m) × List (List (SV m))) :=
  wD P D ((H f).fit (aHg P f).ntmps) nm J x.1.reverse (fS 0 (aAy P f) x.1) (sub (aAy P f) x.1) x.2 (yK P D ((H f).fit (aHg P f).ntmps) nm J [] 0 (aAy P f) x.1 (aLn P (aHg P f) n))
theorem aM {P : Program} {D : (aP m)} {H : FuncId → fI} {f : FuncId} {n : Nat} {J : List Nat × (St m) → Option ((SV m) × List (List (SV m)))} (hJ : ∀ p s, J (p, s) = atF P D H f p n s) (nm : List (List Nat)) (x : List Nat × (St m)) :
    J x = aQJ P D H f nm n J x := by
  obtain ⟨p, s⟩ := x
  rw [hJ]
  unfold aQJ atF
  rw [aQf (root := aAy P f) (fun p s => hJ p s) _ _ _ _ _ (by simp [sub]) (by simp [fS]) (by simp [fE])]
  exact (aMJ (root := aAy P f) (fun p s => hJ p s) _ _ _ _ _ (by simp) (by simp) (by simp)).symm
end Go.Vs
namespace Go.Vs
theorem aJ {m : Bool} {P : Program} {D : (aP m)} {H : FuncId → fI} {f : FuncId} {args : List (SV m)} {boxes : List (List (SV m))} {J : List Nat × (St m) → Option ((SV m) × List (List (SV m)))}
    {nb : Nat} (hb : ((P.funcs[f]?).bind (·.body)).isSome = true) (hJ : ∀ p s, J (p, s) = atF P D H f p nb s) (nm : List (List Nat)) (hnb : boxes.length = nb := by rfl) :
    bL P D H cB f args boxes = aQJ P D H f nm nb J ([], St.freeze (aHg P f).ntmps (aEw (aHg P f) args boxes) ((H f).fz 1048576)) := by
  subst hnb
  rw [← aM hJ, hJ]
  unfold bL atF aHg aAy
  cases hfn : P.funcs[f]? with
  | none => rw [hfn] at hb; simp at hb
  | some fn =>
    rw [hfn] at hb
    simp only [Option.bind_some] at hb
    cases hc : fn.body with
    | none => rw [hc] at hb; simp at hb
    | some c => simp [sub, fS, fE, hc]
def bH {m : Bool} (n : Nat) : List (SV m) := List.replicate n .any
def noB {m : Bool} (n : Nat) : List (Option (List (SV m))) := List.replicate n none
end Go.Vs
end
section
namespace Go.Vs
variable {m : Bool} {β : Type}
@[simp] theorem aC (x : Option β) : aB true x = x := rfl
@[simp] theorem aQ3 (x : Option β) : aB false x = none := rfl
@[simp] theorem aF (x y : Option β) : aD true x y = x := rfl
@[simp] theorem aI (x y : Option β) : aD false x y = y := rfl
theorem bO (b : Bool) (x y : Option β) : aD b x y = if b = true then x else y := by cases b <;> rfl
@[simp] theorem aRv (b : Bool) (k : Bool → Option β) : nF (.leaf (.bool b) : SV m) k = k b := rfl
@[simp] theorem bV (l : aA m) (k : aA m → Option β) : aV (.leaf l) k = k l := rfl
@[simp] theorem aRH (c : Fl m) (es : List (List (aA m))) (k : Fl m → List (List (aA m)) → Option β) : nH (.leaf (.sl c es)) k = k c es := rfl
@[simp] theorem gD (e : TypeId) (es : List (List (aA m))) (k : List (List (aA m)) → Option β) : gS e (.own (some e) es) k = k es := by simp [gS]
@[simp] theorem lT (cs : List (aA m)) (k : List (aA m) → Option β) : dY (.agg cs) k = k cs := rfl
@[simp] theorem nB (vs : List (SV m)) (k : List (SV m) → Option β) : jI (.tup vs) k = k vs := rfl
@[simp] theorem aRV (k : Option β) : aEE (.nilface : SV m) k = k := rfl
@[simp] theorem cX (k0 : IntKind) (n : Int) (k : Int → Option β) : dU k0 (.int k0 n : aA m) k = k n := by simp [dU]
@[simp] theorem bZ (b : Bool) (k : Bool → Option β) : cN (.bool b : aA m) k = k b := rfl
@[simp] theorem bX (s : ByteArray) (k : ByteArray → Option β) : bU (.str s : aA m) k = k s := rfl
@[simp] theorem eW (c : Fl m) (es : List (List (aA m))) (k : Fl m → List (List (aA m)) → Option β) : slK (.sl c es) k = k c es := rfl
@[simp] theorem bY (l : aA m) (e : List (aA m)) (k : aA m → Option β) : atK (l :: e) 0 k = k l := rfl
@[simp] theorem dC (l : aA m) (e : List (aA m)) (n : Nat) (k : aA m → Option β) : atK (l :: e) (n + 1) k = atK e n k := rfl
@[simp] theorem dI (e : List (aA m)) (k : List (aA m) → Option β) : fC e k = k e := rfl
@[simp] theorem fA (v : SV m) (r : List (SV m)) (k : SV m → List (SV m) → Option β) : eX (v :: r) k = k v r := rfl
@[simp] theorem gH (k : Option β) : iA ([] : List (SV m)) k = k := rfl
@[simp] theorem lV (v : List (SV m)) (r : List (List (SV m))) (k : List (SV m) → List (List (SV m)) → Option β) : pP (v :: r) k = k v r := rfl
@[simp] theorem kM (k : Option β) : mL ([] : List (List (SV m))) k = k := rfl
@[simp] theorem aR0 (l : SV m) (e : List (SV m)) (k : SV m → Option β) : aL7 (l :: e) 0 k = k l := rfl
@[simp] theorem aRZ (l : SV m) (e : List (SV m)) (n : Nat) (k : SV m → Option β) : aL7 (l :: e) (n + 1) k = aL7 e n k := rfl
@[simp] theorem aSg (a b : Fl false) : (a = b) = True := eq_true (by cases a; cases b; rfl)
theorem sN {z : Int} (h1 : -9223372036854775808 ≤ z) (h2 : z ≤ 9223372036854775807) : IntKind.i64.wrap z = z := by
  have e : IntKind.i64.wrap z = if z % 18446744073709551616 ≥ 9223372036854775808 then z % 18446744073709551616 - 18446744073709551616 else z % 18446744073709551616 := by
    simp [IntKind.wrap, IntKind.signed, IntKind.bits]
  rw [e]
  split <;> omega
theorem aRj {i : Nat} (h : i < 4611686018427387904) : IntKind.i64.wrap ((i : Int) + 1) = ((i + 1 : Nat) : Int) := by
  rw [sN (by omega) (by omega)]; rfl
theorem cC {n : Nat} {Q : Nat → Prop} (hn : Q n) (hs : ∀ i, i < n → Q (i + 1) → Q i) : ∀ i, i ≤ n → Q i := by
  intro i hi
  obtain ⟨k, rfl⟩ : ∃ k, n = i + k := ⟨n - i, by omega⟩
  induction k generalizing i with
  | zero => exact hn
  | succ k ih => exact hs i (by omega) (ih (i + 1) (by rw [show i + 1 + k = i + (k + 1) by omega]; exact hn) (by intro j hj; exact hs j (by omega)) (by omega))
def nJ (l : List (List (aA m))) (i : Nat) (z : List (SV m)) : List (SV m) := (l.take i).flatten.map SV.leaf ++ z
theorem qQ {α : Type} {z : Nat} : ∀ {l : List (List α)}, (∀ e ∈ l, e.length = z) → l.flatten.length = l.length * z
  | [], _ => by simp
  | e :: l, h => by
    have h1 := h e (by simp)
    have h2 := qQ (l := l) (fun e he => h e (by simp [he]))
    rw [List.flatten_cons, List.length_append, h1, h2, List.length_cons, Nat.add_mul]; omega
theorem fY {l : List (List (aA m))} {k i : Nat} {z : List (SV m)} (h : ∀ e ∈ l, e.length = k) (hi : i ≤ l.length) : (nJ l i z).length = i * k + z.length := by
  unfold nJ
  rw [List.length_append, List.length_map, qQ (z := k) (fun e he => h e (List.mem_of_mem_take he)), List.length_take, Nat.min_eq_left hi]
theorem oX {l : List (List (aA m))} {k i : Nat} {z : List (SV m)} (h : ∀ e ∈ l, e.length = k) (hi : i < l.length) :
    mR (nJ l i z) (i * k) (l[i].map SV.leaf) = nJ l (i + 1) (z.drop k) := by
  have hl : ((l.take i).flatten.map (SV.leaf (m := m))).length = i * k := by
    rw [List.length_map, qQ (z := k) (fun e he => h e (List.mem_of_mem_take he)), List.length_take, Nat.min_eq_left (Nat.le_of_lt hi)]
  have hk : (l[i].map (SV.leaf (m := m))).length = k := by rw [List.length_map]; exact h _ (List.getElem_mem hi)
  unfold mR nJ
  rw [hk, List.take_append_of_le_length (by omega), List.take_of_length_le (by omega), ← hl, List.drop_append, List.drop_of_length_le (by omega)]
  rw [List.take_succ_eq_append_getElem hi]
  simp only [List.flatten_append, List.map_append, List.flatten_cons, List.flatten_nil, List.append_nil, List.append_assoc, List.nil_append, Nat.add_sub_cancel_left]
theorem pE : ∀ l : List (aA m), cG (l.map SV.leaf) = some l
  | [] => rfl
  | a :: l => by simp [cG, asLeaf, pE l]
theorem eN {α : Type} {z : Nat} : ∀ {l : List (List α)}, (∀ e ∈ l, e.length = z) → gT z l.length l.flatten = l
  | [], _ => rfl
  | e :: l, h => by
    have h1 := h e (by simp)
    have h2 := eN (l := l) (fun e he => h e (by simp [he]))
    simp only [List.length_cons, gT, List.flatten_cons, ← h1, List.take_left', List.drop_left']
    rw [h1, h2]
theorem rH {l : List (List (aA m))} {k : Nat} {z : List (SV m)} (h : ∀ e ∈ l, e.length = k) : cG ((nJ l l.length z).take (l.length * k)) = some l.flatten := by
  unfold nJ
  have hl : (l.flatten.map (SV.leaf (m := m))).length = l.length * k := by rw [List.length_map, qQ h]
  rw [List.take_length, List.take_append_of_le_length (by omega), List.take_of_length_le (by omega)]
  exact pE _
end Go.Vs
end
section
namespace Go.Vs
variable {m : Bool} {P : Program} {N : Env} {H : Type} {enc : TypeId × Value → H}
def wU (p : TypeId → List (aA m) → Prop) : List TypeId → List (aA m) → Prop
  | [], ls => ls = []
  | t :: ts, ls => ∃ a b, ls = a ++ b ∧ p t a ∧ wU p ts b
def eT (P : Program) (c : Fl m) : Nat → TypeId → List (aA m) → Prop
  | 0, _, _ => False
  | n + 1, t, ls => match P.underlying t with
    | some .bool => ∃ b, ls = [.bool b]
    | some (.int k) => ∃ z, ls = [.int k z] ∧ (Lit.int k z).wf = true
    | some .string => ∃ s : ByteArray, ls = [.str s] ∧ s.size ≤ maxLen
    | some (.slice e) => ∃ es, ls = [.sl c es] ∧ es.length ≤ maxLen ∧ ∀ x ∈ es, eT P c n e x
    | some (.struct fs) => wU (eT P c n) (fs.toList.map Field.type) ls
    | _ => False
def aQD (P : Program) (S : List TypeId) : Nat → List Field → Nat → Bool
  | o, [], z => o == z
  | o, f :: fs, z => f.offset == o && S.contains f.type && aQD P S (o + P.cellsOf f.type) fs z
def aRS (P : Program) (S : List TypeId) (t : TypeId) : Bool := match P.underlying t with
  | some .bool | some (.int _) | some .string => true
  | some (.slice e) => S.contains e && decide (0 < P.cellsOf e)
  | some (.struct fs) => aQD P S 0 fs.toList (P.cellsOf t)
  | _ => false
def vN (w : World) : Fr := fun g => match w.heap[g]? with | some (.cells c _ _) => c.size | _ => 0
theorem aMl {w : World} {g j : Nat} {v : Value} (h : w.cell? ⟨g, j, none⟩ = some v) : j < vN w g := by
  unfold World.cell? at h
  unfold vN
  simp only at h
  split at h
  · rename_i c e fr hc
    simp only [hc]
    exact (List.getElem?_eq_some_iff.1 (by simpa using h)).1
  · simp at h
theorem aPj {w : World} {base : Nat} {a : Addr} {n : Nat} {cs : List Value} (h : w.cells? base a n = some cs) : cs.length = n ∧ ∀ j v, cs[j]? = some v → w.cell? (a.add j) = some v := by
  unfold World.cells? at h
  split at h
  · refine ⟨by simpa using mapM_some_length h, fun j v hj => ?_⟩
    have hlen : cs.length = n := by simpa using mapM_some_length h
    have hj' : j < n := by rw [← hlen]; exact (List.getElem?_eq_some_iff.1 hj).1
    have := mapM_some_get h j j (by simp [hj'])
    rw [this, hj]
  · simp at h
theorem aQr {w : World} {F : Fr} {base : Nat} {sp : Nat → Bool} {held : Bool} {c : Fl m} {S : List TypeId} {n : Nat}
    (ih : ∀ t cs x, t ∈ S → DataW.trod enc P w base sp held n t cs = some x → ∃ ls : List (aA m), cP w F N ls cs ∧ eT P c n t ls) (cs : List Value) :
    ∀ (fs : List Field) (o : Nat), aQD P S o fs cs.length = true → (∀ f ∈ fs, ∃ x, DataW.trod enc P w base sp held n f.type ((cs.drop f.offset).take (P.cellsOf f.type)) = some x) →
      ∃ ls : List (aA m), cP w F N ls (cs.drop o) ∧ wU (eT P c n) (fs.map Field.type) ls
  | [], o, h, _ => by
    simp only [aQD, beq_iff_eq] at h
    refine ⟨[], ?_, rfl⟩
    rw [List.drop_of_length_le (by omega)]
    exact cP.nil _ _ _
  | f :: fs, o, h, hx => by
    simp only [aQD, Bool.and_eq_true, beq_iff_eq, List.contains_iff_mem] at h
    obtain ⟨⟨ho, hS⟩, h⟩ := h
    obtain ⟨x, hx0⟩ := hx f (by simp)
    obtain ⟨a, ha, sa⟩ := ih _ _ _ hS hx0
    obtain ⟨b, hb, sb⟩ := aQr ih cs fs _ h fun g hg => hx g (by simp [hg])
    refine ⟨a ++ b, ?_, a, b, rfl, sa, sb⟩
    have := ha.append hb
    rw [ho] at this
    rwa [← List.drop_drop, List.take_append_drop] at this
theorem aIW {w : World} {F : Fr} {base : Nat} {sp : Nat → Bool} {held : Bool} {c : Fl m} (hc1 : ∀ g o, c.Holds N w g o) (hc2 : c.isSoft = false) (hF : ∀ g j v, w.cell? ⟨g, j, none⟩ = some v → j < F g) (hZ : ∀ g, N.Z g = false)
    {S : List TypeId} (hS : S.all (aRS P S) = true) : ∀ (fuel : Nat) (t : TypeId) (cs : List Value) (x : DataW H × List MemPlace), t ∈ S → DataW.trod enc P w base sp held fuel t cs = some x → ∃ ls : List (aA m), cP w F N ls cs ∧ eT P c fuel t ls
  | 0, t, cs, x, _, h => by simp [DataW.trod] at h
  | n + 1, t, cs, x, ht, h => by
    have ih := aIW (c := c) hc1 hc2 hF hZ hS n (w := w) (base := base) (sp := sp) (held := held)
    have hok := List.all_eq_true.1 hS t ht
    unfold aRS at hok
    split at hok
    · rename_i hu
      obtain ⟨b, rfl, _⟩ := DataW.trod_bool hu h
      exact ⟨[.bool b], cP.cons (.bool b) (cP.nil _ _ _), by unfold eT; simp only [hu]; exact ⟨b, rfl⟩⟩
    · rename_i k hu
      obtain ⟨z, rfl, _, hw⟩ := DataW.trod_int hu h
      exact ⟨[.int k z], cP.cons (.int k z) (cP.nil _ _ _), by unfold eT; simp only [hu]; exact ⟨z, rfl, hw⟩⟩
    · rename_i hu
      obtain ⟨s, rfl, _, hs⟩ := DataW.trod_string hu h
      exact ⟨[.str s], cP.cons (.str s) (cP.nil _ _ _), by unfold eT; simp only [hu]; exact ⟨s, rfl, hs⟩⟩
    · rename_i e hu
      have hs : ∀ ls : List (aA m), eT P c (n + 1) t ls ↔ ∃ es, ls = [.sl c es] ∧ es.length ≤ maxLen ∧ ∀ x ∈ es, eT P c n e x := fun ls => by
        conv => lhs; unfold eT
        simp only [hu]
      simp only [hs]
      simp only [Bool.and_eq_true, List.contains_iff_mem, decide_eq_true_eq] at hok
      obtain ⟨heS, hz⟩ := hok
      rcases DataW.trod_slice hu h with ⟨rfl, _⟩ | ⟨a, len, cap, elems, rest, n', hn, rfl, _, _, hlc, hcm, hel, hget, _, _⟩
      · exact ⟨[.sl c []], cP.cons (lP (es := []) (z := 0) (vals := []) (Nat.le_refl _) (by simp) (fun h => by simp at h) (cP.nil _ _ _)) (cP.nil _ _ _), [], rfl, by simp, by simp⟩
      · obtain rfl : n' = n := by omega
        have rows : ∀ k, k ≤ len → ∃ (es : List (List (aA m))) (vals : List Value), es.length = k ∧ (∀ x ∈ es, x.length = P.cellsOf e) ∧ (∀ j v, vals[j]? = some v → w.cell? (a.add j) = some v) ∧ cP w F N es.flatten vals ∧ vals.length = k * P.cellsOf e ∧ ∀ x ∈ es, eT P c n' e x := by
          intro k
          induction k with
          | zero => intro _; exact ⟨[], [], rfl, by simp, by simp, cP.nil _ _ _, by simp, by simp⟩
          | succ k ihk =>
            intro hk
            obtain ⟨es, vals, h1, h2, h3, h4, h5, h6⟩ := ihk (by omega)
            have hg := hget k (by omega)
            have : k < elems.length := by omega
            rw [List.getElem?_eq_getElem this, Option.bind_eq_some_iff] at hg
            obtain ⟨ck, hck, htk⟩ := hg
            obtain ⟨ls, hls, hsh⟩ := ih _ _ _ heS htk
            obtain ⟨hcl, hcc⟩ := aPj hck
            refine ⟨es ++ [ls], vals ++ ck, by simp [h1], ?_, ?_, by simpa using h4.append hls, by rw [List.length_append, h5, hcl, Nat.add_mul]; omega, ?_⟩
            · intro x hx
              rcases List.mem_append.1 hx with hx | hx
              · exact h2 x hx
              · obtain rfl : x = ls := by simpa using hx
                rw [← hls.1, hcl]
            · intro j v hj
              rw [List.getElem?_append] at hj
              split at hj
              · exact h3 j v hj
              · rename_i hge
                have := hcc _ _ hj
                rw [← this]
                congr 1
                have e1 : k * P.cellsOf e + (j - vals.length) = j := by omega
                unfold Addr.add
                by_cases hk0 : k * P.cellsOf e = 0
                · simp only [hk0, if_true]
                  rw [show j - vals.length = j by omega]
                · by_cases hj0 : j - vals.length = 0
                  · simp only [hk0, if_false, hj0, if_true]
                    rw [if_neg (by omega)]
                    congr 1; omega
                  · simp only [hk0, if_false, hj0]
                    rw [if_neg (by omega)]
                    simp only [Addr.mk.injEq, and_true, true_and]; omega
            · intro x hx
              rcases List.mem_append.1 hx with hx | hx
              · exact h6 x hx
              · obtain rfl : x = ls := by simpa using hx
                exact hsh
        obtain ⟨es, vals, h1, h2, h3, h4, h5, h6⟩ := rows len (Nat.le_refl _)
        refine ⟨[.sl c es], cP.cons ?_ (cP.nil _ _ _), es, rfl, by omega, h6⟩
        subst h1
        refine lP hlc h2 (fun hpos => ?_) h4
        have hv0 : 0 < vals.length := by rw [h5]; exact Nat.mul_pos hpos hz
        obtain ⟨g, o, spot⟩ := a
        have hc0 := h3 0 _ (List.getElem?_eq_getElem hv0)
        have hsp : spot = none := by
          cases spot with
          | none => rfl
          | some s =>
            exfalso
            simp only [Addr.add, if_true, World.cell?] at hc0
            split at hc0 <;> simp at hc0
        subst hsp
        have hcell : ∀ j v, vals[j]? = some v → w.cell? ⟨g, o + j, none⟩ = some v := fun j v hj => by
          have := h3 j v hj
          unfold Addr.add at this
          split at this
          · rename_i hj0; rw [hj0]; exact this
          · exact this
        have hlast := hF _ _ _ (hcell (vals.length - 1) _ (List.getElem?_eq_getElem (by omega)))
        exact ⟨g, o, rfl, ⟨hv0, hc1 _ _⟩, by omega, ⟨fun h => by rw [hc2] at h; simp at h, fun h => by rw [hZ] at h; simp at h⟩, hcell⟩
    · rename_i fs hu
      have hs : ∀ ls : List (aA m), eT P c (n + 1) t ls ↔ wU (eT P c n) (fs.toList.map Field.type) ls := fun ls => by
        conv => lhs; unfold eT
        simp only [hu]
      simp only [hs]
      obtain ⟨xs, n', hn, _, hl, hlen, hf⟩ := DataW.trod_struct hu h
      obtain rfl : n' = n := by omega
      rw [← hl] at hok
      have := aQr (c := c) ih cs fs.toList 0 hok fun f hfm => by
        obtain ⟨i, hi, rfl⟩ := List.getElem_of_mem hfm
        have hi' : i < fs.size := by simpa using hi
        have := hf i fs[i] (Array.getElem?_eq_getElem hi')
        rw [List.getElem?_eq_getElem (by omega)] at this
        exact ⟨_, by simpa using this⟩
      simpa using this
    · simp at hok
end Go.Vs
namespace Go.Vs
variable {m : Bool} {P : Program}
abbrev aLm := List ((Nat × Nat) × Value)
def KOk (W : World) (K : aLm) : Prop := ∀ k ∈ K, k.1.2 < vN W k.1.1 ∧ W.cell? ⟨k.1.1, k.1.2, none⟩ = some k.2
theorem KOk.nil {W : World} : KOk W [] := fun _ h => by cases h
theorem KOk.lt {W : World} {K : aLm} (h : KOk W K) : ∀ k ∈ K, k.1.1 < W.heap.size := fun k hk => Nat.lt_of_not_le fun hn => by
  have := (h k hk).1
  unfold vN at this
  rw [Array.getElem?_eq_none hn] at this
  simp at this
def N0 (W : World) (K : aLm := []) (B : List (Nat × Nat) := []) : Env := { n := W.heap.size, Z := fun _ => false, lt := fun g h => by simp at h, K := K, B := B }
theorem KOk.lowB {W : World} {K : aLm} {B : List (Nat × Nat)} (h : KOk W K) (hB : ∀ p ∈ B, BSz W p.1 p.2) : Low (N0 W K B) W (vN W) := ⟨Nat.le_refl _, fun k hk => ⟨(h k hk).1, rfl, (h k hk).2⟩, hB⟩
theorem KOk.low {W : World} {K : aLm} (h : KOk W K) : Low (N0 W K) W (vN W) := h.lowB (fun _ h => by cases h)
theorem aO8 {K : aLm} {B : List (Nat × Nat)} {W : World} {D : aP m} (hD : mM P (N0 W K B) D) {f : FuncId} {args : List (SV m)} {r : SV m} (h : D f args [] = some (r, [])) (hh : args.all SV.handed = true) {vals : Array Value} (hl : args.length = vals.size)
    (hr : ∀ j a v, args[j]? = some a → vals[j]? = some v → aU P W (vN W) (N0 W K B) (fun _ => none) (fun _ => W.heap.size) (fun _ => false) (.tmp j) a v) (hK : KOk W K := by exact KOk.nil) (hB : ∀ p ∈ B, BSz W p.1 p.2 := by exact fun _ h => by cases h) :
    Calls P f vals W fun e w' => ∃ v F' Ow' bm al, e = .returned v ∧ aU P w' F' (N0 W K B) Ow' bm al (.tmp 0) r v ∧ Go.RowKit.Below W.heap.size W w' := by
  obtain ⟨_, _, _, _, hc⟩ := hD f args [] (r, []) h hh (by simp)
  refine (hc W (vN W) (fun _ => none) (fun _ => W.heap.size) vals ⟨hl, fun t => ?_, fun b cs hb => ?_, hK.lowB hB, fun g hg => ⟨?_, rfl⟩, fun b cs hb => ?_, fun g hg => ?_⟩).mono fun e w' ⟨v, F', Ow', he, hi, hf⟩ => ?_
  · by_cases ht : t < args.length
    · have := hr t _ _ (List.getElem?_eq_getElem ht) (Array.getElem?_eq_getElem (by omega))
      simp only [List.getD, List.getElem?_eq_getElem ht, Option.getD_some, Array.getD, show t < vals.size by omega, dif_pos]
      exact this.keeps (dW.refl _ _) (fun b hb => by simp at hb) (fun g hg => by simp at hg)
    · simp only [List.getD, List.getElem?_eq_none (Nat.not_lt.1 ht), Option.getD_none]
      exact trivial
  · simp [bB] at hb
  · unfold vN
    rw [Array.getElem?_eq_none hg]
  · simp [bB] at hb
  · simp [N0] at hg
  · refine ⟨v, F', Ow', _, _, he, hi.slot 0, hf.os, hf.tape, hf.output, hf.size, fun k hk => (hf.old k hk rfl).1 rfl⟩
end Go.Vs
end
section
namespace Go.Vs
variable {m m' : Bool} {P : Program}
mutual
def reF (φ : Fl m → Fl m') : aA m → aA m'
  | .bool b => .bool b
  | .int k n => .int k n
  | .str s => .str s
  | .unk => .unk
  | .nl e => .nl e
  | .sl c es => .sl (φ c) (reE φ es)
def reL (φ : Fl m → Fl m') : List (aA m) → List (aA m')
  | [] => []
  | l :: r => reF φ l :: reL φ r
def reE (φ : Fl m → Fl m') : List (List (aA m)) → List (List (aA m'))
  | [] => []
  | e :: r => reL φ e :: reE φ r
end
variable {φ : Fl m → Fl m'}
theorem xZ : ∀ l : List (aA m), reL φ l = l.map (reF φ)
  | [] => rfl
  | l :: r => by rw [reL, List.map_cons, xZ r]
theorem aIL : ∀ l : List (List (aA m)), reE φ l = l.map (reL φ)
  | [] => rfl
  | l :: r => by rw [reE, List.map_cons, aIL r]
theorem aFo (l : List (aA m)) : (reL φ l).length = l.length := by rw [xZ, List.length_map]
theorem wA (l : List (List (aA m))) : (reE φ l).length = l.length := by rw [aIL, List.length_map]
theorem yM : ∀ l : List (List (aA m)), (reE φ l).flatten = reL φ l.flatten
  | [] => rfl
  | e :: r => by rw [reE, List.flatten_cons, List.flatten_cons, yM r, xZ, xZ, xZ, List.map_append]
theorem aQw (l : aA m) : (reF φ l).soft = l.soft := by cases l <;> rfl
def aRK (φ : Fl m → Fl m') (w : World) (F : Fr) (N : Env) (F' : Fr) (N' : Env) : Prop :=
  ∀ (c : Fl m) (g o : Nat), g < w.heap.size → c.Holds N w g o → (φ c).Holds N' w g o ∧ F g ≤ F' g ∧ ((c.isSoft = true → N.Z g = true) → (φ c).isSoft = true → N'.Z g = true) ∧ (N'.Z g = true → N.Z g = true)
theorem aLJ {w : World} {g j : Nat} {v : Value} (h : w.cell? ⟨g, j, none⟩ = some v) : g < w.heap.size := by
  unfold World.cell? at h
  simp only at h
  split at h
  · rename_i c e fr hc
    exact (Array.getElem?_eq_some_iff.1 hc).1
  · simp at h
theorem dQ.re {w : World} {F F' : Fr} {N N' : Env} (hok : aRK φ w F N F' N') {l : aA m} {v : Value} (h : dQ w F N l v) : dQ w F' N' (reF φ l) v := by
  induction h with
  | bool b => exact .bool b
  | int k n => exact .int k n
  | str s => exact .str s
  | unk v h => exact .unk v h
  | nl e => exact .nl e
  | sl c es A cap z vals hc hz hv hcell hr ih =>
    rw [show reF φ (.sl c es) = .sl (φ c) (reE φ es) by rw [reF]]
    have hl : (reE φ es).length = es.length := wA es
    rw [← hl]
    refine .sl (φ c) (reE φ es) A cap z vals (by rw [hl]; exact hc) (fun e he => ?_) (by rw [hl]; exact hv) (fun hpos => ?_) (fun j l v h1 h2 => ?_)
    · rw [aIL] at he
      obtain ⟨e0, he0, rfl⟩ := List.mem_map.1 he
      rw [aFo]; exact hz e0 he0
    · rw [hl] at hpos
      obtain ⟨g, o, e, ⟨hv0, hn⟩, hle, hso, hcl⟩ := hcell hpos
      obtain ⟨h1, h2, h3, h4⟩ := hok c g o (aLJ (hcl 0 _ (List.getElem?_eq_getElem hv0))) hn
      refine ⟨g, o, e, ⟨hv0, h1⟩, Nat.le_trans hle h2, ⟨fun hs => h3 hso.1 hs, fun hz' l hl' => ?_⟩, hcl⟩
      rw [yM, xZ] at hl'
      obtain ⟨l0, hl0, rfl⟩ := List.mem_map.1 hl'
      rw [aQw]
      exact hso.2 (h4 hz') l0 hl0
    · rw [yM, xZ, List.getElem?_map, Option.map_eq_some_iff] at h1
      obtain ⟨l0, hl0, rfl⟩ := h1
      exact ih j l0 v hl0 h2
theorem cP.re {w : World} {F F' : Fr} {N N' : Env} (hok : aRK φ w F N F' N') {ls : List (aA m)} {vs : List Value} (h : cP w F N ls vs) : cP w F' N' (reL φ ls) vs := by
  refine ⟨by rw [aFo, h.1], fun j l v h1 h2 => ?_⟩
  rw [xZ, List.getElem?_map, Option.map_eq_some_iff] at h1
  obtain ⟨l0, hl0, rfl⟩ := h1
  exact (h.2 j l0 v hl0 h2).re hok
end Go.Vs
end
section
namespace Go.Vs
variable {m m' : Bool} {P : Program}
mutual
def reS (φ : Fl m → Fl m') : SV m → SV m'
  | .any => .any
  | .skip => .skip
  | .leaf l => .leaf (reF φ l)
  | .own e es => .own e (reE φ es)
  | .raw e es => .raw e (reE φ es)
  | .agg cs => .agg (reL φ cs)
  | .ptr b o => .ptr b o
  | .eptr _ _ _ => .any
  | .kfn f cs => .kfn f cs
  | .bsl b z lo n => .bsl b z lo n
  | .nilptr => .nilptr
  | .nilface => .nilface
  | .fn f caps => .fn f (aPX φ caps)
  | .tup vs => .tup (aPX φ vs)
def aPX (φ : Fl m → Fl m') : List (SV m) → List (SV m')
  | [] => []
  | v :: r => reS φ v :: aPX φ r
end
variable {φ : Fl m → Fl m'}
theorem aFq : ∀ l : List (SV m), aPX φ l = l.map (reS φ)
  | [] => rfl
  | l :: r => by rw [aPX, List.map_cons, aFq r]
def aRB (φ : Fl m → Fl m') (s : St m) : St m' := { tmps := s.tmps.map (reS φ), boxes := s.boxes.map (Option.map (List.map (reS φ))) }
theorem aJt (bs : fZ m) (b : Nat) : bB (bs.map (Option.map (List.map (reS φ)))) b = (bB bs b).map (List.map (reS φ)) := by
  unfold bB
  rw [List.getD_eq_getElem?_getD, List.getD_eq_getElem?_getD, List.getElem?_map]
  cases bs[b]? <;> rfl
section
variable {w : World} {F : Fr} {N : Env} (hok : aRK φ w F N F N)
include hok
theorem dB.re {bm : Nat → Nat} {al : Nat → Bool} {x : SV m} {v : Value} (h : dB w F N bm al x v) : dB w F N bm al (reS φ x) v := by
  cases x with
  | leaf l => exact dQ.re hok h
  | agg cs => obtain ⟨vs, e, hr⟩ := h; exact ⟨vs, e, hr.re hok⟩
  | eptr c e o => trivial
  | own e es => exact absurd h id
  | raw e es => exact absurd h id
  | fn f caps => exact absurd h id
  | tup vs => exact absurd h id
  | _ => exact h
theorem kT.re {Ow : Own} {loc : Loc} {q : Bool} {eo : Option TypeId} {es : List (List (aA m))} {v : Value} (h : kT P w F N Ow loc q eo es v) : kT P w F N Ow loc q eo (reE φ es) v := by
  rcases h with ⟨rfl, rfl⟩ | ⟨g, cap, cur, e, i, vals, hn, he, hi, hz, rfl, hg, hc, hm, hs, hx, ho, hf, ht, hr⟩
  · exact .inl ⟨rfl, rfl⟩
  · refine .inr ⟨g, cap, cur, e, i, vals, hn, he, hi, hz, by rw [wA], hg, by rw [wA]; exact hc, hm, hs, fun x hx' => ?_, ho, by rw [wA]; exact hf, by rw [wA]; exact ht, by rw [yM]; exact hr.re hok⟩
    rw [aIL] at hx'
    obtain ⟨x0, hx0, rfl⟩ := List.mem_map.1 hx'
    rw [aFo]; exact hx x0 hx0
theorem aU.re {Ow : Own} {bm : Nat → Nat} {al : Nat → Bool} {loc : Loc} {x : SV m} {v : Value} (h : aU P w F N Ow bm al loc x v) : aU P w F N Ow bm al loc (reS φ x) v := by
  have caps : ∀ (cs : List (SV m)) (vs : Array Value), (∀ (j : Nat) (c : SV m) (u : Value), cs[j]? = some c → vs[j]? = some u → dB w F N bm al c u) →
      ∀ (j : Nat) (c : SV m') (u : Value), (aPX φ cs)[j]? = some c → vs[j]? = some u → dB w F N bm al c u := by
    intro cs vs hc j c u h1 h2
    rw [aFq, List.getElem?_map, Option.map_eq_some_iff] at h1
    obtain ⟨c0, h0, rfl⟩ := h1
    exact (hc j c0 u h0 h2).re hok
  cases x with
  | own eo es => exact kT.re hok h
  | raw eo es => exact kT.re hok h
  | fn f cs => obtain ⟨vs, e, hs, hc⟩ := h; exact ⟨vs, e, by rw [hs, aFq, List.length_map], caps cs vs hc⟩
  | tup cs => obtain ⟨vs, e, hs, hc⟩ := h; exact ⟨vs, e, by rw [hs, aFq, List.length_map], caps cs vs hc⟩
  | any => trivial
  | eptr c e o => trivial
  | _ =>
    simp only [aU] at h
    have := dB.re (bm := bm) (al := al) hok h
    simpa only [reS, aU] using this
theorem Inv.re {s : St m} {tmps : Array Value} {Ow : Own} {bm : Nat → Nat} (h : Inv P s tmps w F N Ow bm) : Inv P (aRB φ s) tmps w F N Ow bm := by
  have hal : (fun b => (bB (aRB φ s).boxes b).isSome) = fun b => (bB s.boxes b).isSome := by
    funext b; show (bB (s.boxes.map _) b).isSome = _; rw [aJt]; cases bB s.boxes b <;> rfl
  refine ⟨by show (s.tmps.map _).length = _; rw [List.length_map]; exact h.len, fun t => ?_, fun b cs hb => ?_, h.low, h.new, fun b cs hb => ?_, h.zow⟩
  · rw [hal]
    have := aU.re hok (h.slot t)
    have e : (aRB φ s).tmps.getD t SV.any = reS φ (s.tmps.getD t SV.any) := by
      show (s.tmps.map (reS φ)).getD t SV.any = _
      rw [List.getD_eq_getElem?_getD, List.getD_eq_getElem?_getD, List.getElem?_map]
      cases s.tmps[t]? <;> rfl
    rw [e]; exact this
  · have hb' : (bB s.boxes b).map (List.map (reS φ)) = some cs := by rw [← aJt]; exact hb
    rw [Option.map_eq_some_iff] at hb'
    obtain ⟨cs0, h0, rfl⟩ := hb'
    rcases h.box b cs0 h0 with q0 | ⟨cur, e, g1, g2, g3, g4, g5⟩
    · subst q0; exact .inl rfl
    refine .inr ⟨cur, e, g1, by rw [List.length_map]; exact g2, g3, g4, fun j c u h1 h2 => ?_⟩
    rw [hal]
    rw [List.getElem?_map, Option.map_eq_some_iff] at h1
    obtain ⟨c0, hc0, rfl⟩ := h1
    exact aU.re hok (g5 j c0 u hc0 h2)
  · have hb' : (bB s.boxes b).map (List.map (reS φ)) = some cs := by rw [← aJt]; exact hb
    rw [Option.map_eq_some_iff] at hb'
    obtain ⟨cs0, h0, _⟩ := hb'
    exact h.bmn b cs0 h0
end
end Go.Vs
end
section
namespace Go.Vs
variable {m : Bool} {P : Program}
section
variable {β : Type} {D : aP m} {H : fI} {nm : List (List Nat)} {J : List Nat × St m → Option β}
end
section
variable {D : aP m} {H : fI} {nt : Nat} {β : Type}
end
end Go.Vs
namespace Go.Vs
variable {m : Bool} {P : Program}
structure xS (P : Program) (fn : Func) (W : World) (N : Env) (s : St m) (a : Act) (w : World) (F : Fr) (Ow : Own) (bm : Nat → Nat) : Prop where
  inv : Inv P s a.tmps w F N Ow bm
  len : s.boxes.length = fn.ntmps
  defers : a.defers = []
  bel : Go.RowKit.Below W.heap.size W w
  own : ∀ g, g < W.heap.size → Ow g = none
  z : ∀ g, g < W.heap.size → N.Z g = false
abbrev aSb (W : World) : Ending → World → Prop := fun e w' => e = .returned (.bool true) ∧ Go.RowKit.Below W.heap.size W w'
abbrev yes : SV m × List (List (SV m)) := (.leaf (.bool true), [])
section
variable {D : aP m} {H : FuncId → fI} {f : FuncId} {fn : Func} {c0 : Code} {W : World} {N : Env} {s : St m} {a : Act} {w : World} {F : Fr} {Ow : Own} {bm : Nat → Nat}
theorem xS.step {s' : St m} {a' : Act} {w' : World} (h : xS P fn W N s a w F Ow bm) (hst : kN P N fn.ntmps s' a w F Ow bm a' w') (hl : s'.boxes.length = fn.ntmps) :
    ∃ F' Ow' bm', xS P fn W N s' a' w' F' Ow' bm' ∧ Far N w F Ow w' F' Ow' := by
  obtain ⟨F1, O1, b1, k1, k2, k3, k4⟩ := hst
  refine ⟨F1, O1, b1, ⟨k1, hl, k4.trans h.defers, h.bel.trans ⟨k2.os, k2.tape, k2.output, k2.size, fun g hg => ?_⟩, fun g hg => ?_, h.z⟩, k2⟩
  · exact (k2.old g (Nat.lt_of_lt_of_le hg h.bel.size) (h.own g hg)).1 (h.z g hg)
  · exact (k2.old g (Nat.lt_of_lt_of_le hg h.bel.size) (h.own g hg)).2.2
theorem xS.back {a' : Act} {w' : World} {ex : Exit} {out : Out m} (h : xS P fn W N s a w F Ow bm) (ho : aLn P fn 0 out = some yes) (he : aFs P N fn.ntmps fn.ntmps a w F Ow bm out ex a' w') : bodyPost P fn (aSb W) ex a' w' := by
  replace ho := aLl ho
  have fin : ∀ s' : St m, sO P fn 0 s' = some yes → kN P N fn.ntmps s' a w F Ow bm a' w' → s'.boxes.length = fn.ntmps → a'.defers = [] ∧ ∃ v, (results fn a'.tmps).run P w' = .ok v w' ∧ aSb W (.returned v) w' := by
    intro s' hl hst hlen
    obtain ⟨F1, O1, b1, k, _⟩ := h.step hst hlen
    obtain ⟨_, _, _, u, O2, F2, l4, l5, _⟩ := k.inv.leave hl
    refine ⟨k.defers, u, l4, ?_, k.bel⟩
    have := l5.slot 0
    have hv := pA (b := true) (w := w') (F := F2) (N := N) (by simpa [aU, dB] using this)
    rw [hv]
  cases out <;> cases ex <;> simp only [aFs] at he
  · exact fin _ ho he.1 he.2
  · simp [aQt] at ho
  · exact fin _ ho he.1 he.2
variable (hP : P.follows .mixedOrders = true) (hD : mM P N D) (hfn : P.funcs[f]? = some fn) (hc0 : fn.body = some c0)
include hP hD hfn hc0
omit hP hD in
end
end Go.Vs
end
section
namespace Go.Vs
variable {P : Program}
mutual
def tuF (φ : Fl true → Fl true) (σ : Fl true → Bool) : Bool → aA true → aA true
  | i, .bool b => if i then .unk else .bool b
  | i, .int k n => if i then .unk else .int k n
  | i, .str s => if i then .unk else .str s
  | _, .unk => .unk
  | i, .nl e => if i then .sl aRr [] else .nl e
  | _, .sl c es => .sl (if σ c then aRr else φ c) (tuE φ σ (σ c) es)
def tuL (φ : Fl true → Fl true) (σ : Fl true → Bool) : Bool → List (aA true) → List (aA true)
  | _, [] => []
  | i, l :: r => tuF φ σ i l :: tuL φ σ i r
def tuE (φ : Fl true → Fl true) (σ : Fl true → Bool) : Bool → List (List (aA true)) → List (List (aA true))
  | _, [] => []
  | i, e :: r => tuL φ σ i e :: tuE φ σ i r
end
variable {φ : Fl true → Fl true} {σ : Fl true → Bool}
theorem xT (i : Bool) : ∀ l : List (aA true), tuL φ σ i l = l.map (tuF φ σ i)
  | [] => by rw [tuL]; rfl
  | l :: r => by rw [tuL, List.map_cons, xT i r]
theorem aMd (i : Bool) : ∀ l : List (List (aA true)), tuE φ σ i l = l.map (tuL φ σ i)
  | [] => by rw [tuE]; rfl
  | l :: r => by rw [tuE, List.map_cons, aMd i r]
theorem aAx (i : Bool) (l : List (aA true)) : (tuL φ σ i l).length = l.length := by rw [xT, List.length_map]
theorem aOv (i : Bool) (l : List (List (aA true))) : (tuE φ σ i l).length = l.length := by rw [aMd, List.length_map]
theorem aBJ (i : Bool) : ∀ l : List (List (aA true)), (tuE φ σ i l).flatten = tuL φ σ i l.flatten
  | [] => by rw [tuE]; rfl
  | e :: r => by rw [tuE, List.flatten_cons, List.flatten_cons, aBJ i r, xT, xT, xT, List.map_append]
theorem aQE (l : aA true) : (tuF φ σ true l).soft = true := by cases l <;> rfl
mutual
def aOt (p : Fl true → Bool) : aA true → Bool
  | .sl c es => p c && aQP p es
  | _ => true
def aKB (p : Fl true → Bool) : List (aA true) → Bool
  | [] => true
  | l :: r => aOt p l && aKB p r
def aQP (p : Fl true → Bool) : List (List (aA true)) → Bool
  | [] => true
  | e :: r => aKB p e && aQP p r
end
theorem aJ2 {p : Fl true → Bool} : ∀ {l : List (aA true)}, aKB p l = true → ∀ x ∈ l, aOt p x = true
  | y :: r, h, x, hx => by
    rw [aKB, Bool.and_eq_true] at h
    rcases List.mem_cons.1 hx with rfl | hx
    · exact h.1
    · exact aJ2 h.2 x hx
theorem aMB {p : Fl true → Bool} : ∀ {l : List (List (aA true))}, aQP p l = true → ∀ x ∈ l.flatten, aOt p x = true
  | e :: r, h, x, hx => by
    rw [aQP, Bool.and_eq_true] at h
    rw [List.flatten_cons] at hx
    rcases List.mem_append.1 hx with hx | hx
    · exact aJ2 h.1 x hx
    · exact aMB h.2 x hx
abbrev fl (c : Fl true) : Fl false → Fl true := fun _ => c
def aPT (p : Fl true → Bool) (φ : Fl true → Fl true) (σ : Fl true → Bool) (w : World) (F : Fr) (N : Env) (F' : Fr) (N' : Env) : Prop :=
  ∀ (c : Fl true) (g o : Nat), p c = true → g < w.heap.size → 0 < F g → c.Holds N w g o → F g ≤ F' g ∧ ((σ c = true ∧ N'.Z g = true) ∨ (σ c = false ∧ (φ c).Holds N' w g o ∧ (φ c).isSoft = false ∧ N'.Z g = false))
theorem dQ.tu {p : Fl true → Bool} {w : World} {F F' : Fr} {N N' : Env} (hok : aPT p φ σ w F N F' N') {l : aA true} {v : Value} (h : dQ w F N l v) : aOt p l = true → ∀ i, dQ w F' N' (tuF φ σ i l) v := by
  induction h with
  | bool b => intro _ i; cases i <;> simp only [tuF] <;> first | exact .bool b | exact .unk _ rfl
  | int k n => intro _ i; cases i <;> simp only [tuF] <;> first | exact .int k n | exact .unk _ rfl
  | str s => intro _ i; cases i <;> simp only [tuF] <;> first | exact .str s | exact .unk _ rfl
  | unk v h => intro _ i; rw [tuF]; exact .unk v h
  | nl e =>
    intro _ i
    cases i <;> simp only [tuF]
    · exact .nl e
    · exact lP (es := []) (z := 0) (vals := []) (Nat.le_refl _) (by simp) (fun h => by simp at h) (cP.nil _ _ _)
  | sl c es A cap z vals hc hz hv hcell hr ih =>
    intro hp i
    rw [aOt, Bool.and_eq_true] at hp
    rw [tuF]
    have hl : (tuE φ σ (σ c) es).length = es.length := aOv _ es
    rw [← hl]
    refine .sl _ _ A cap z vals (by rw [hl]; exact hc) (fun e he => ?_) (by rw [hl]; exact hv) (fun hpos => ?_) (fun j l v h1 h2 => ?_)
    · rw [aMd] at he
      obtain ⟨e0, he0, rfl⟩ := List.mem_map.1 he
      rw [aAx]; exact hz e0 he0
    · rw [hl] at hpos
      obtain ⟨g, o, e, ⟨hv0, hn⟩, hle, hso, hcl⟩ := hcell hpos
      obtain ⟨h1, h2⟩ := hok c g o hp.1 (aLJ (hcl 0 _ (List.getElem?_eq_getElem hv0))) (by omega) hn
      rcases h2 with ⟨hs, hZ⟩ | ⟨hs, hH, hS, hZ⟩
      · refine ⟨g, o, e, ⟨hv0, by rw [hs]; trivial⟩, Nat.le_trans hle h1, ⟨fun _ => hZ, fun _ l hl' => ?_⟩, hcl⟩
        rw [aBJ, xT, hs] at hl'
        obtain ⟨l0, _, rfl⟩ := List.mem_map.1 hl'
        exact aQE l0
      · refine ⟨g, o, e, ⟨hv0, by rw [hs]; exact hH⟩, Nat.le_trans hle h1, ⟨fun h => ?_, fun h => by rw [hZ] at h; simp at h⟩, hcl⟩
        rw [hs] at h
        simp only [Bool.false_eq_true, if_false] at h
        rw [hS] at h; simp at h
    · rw [aBJ, xT, List.getElem?_map, Option.map_eq_some_iff] at h1
      obtain ⟨l0, hl0, rfl⟩ := h1
      exact ih j l0 v hl0 h2 (aMB hp.2 l0 (List.mem_of_getElem? hl0)) _
theorem cP.tu {p : Fl true → Bool} {w : World} {F F' : Fr} {N N' : Env} (hok : aPT p φ σ w F N F' N') {ls : List (aA true)} {vs : List Value} (h : cP w F N ls vs) (hp : aKB p ls = true) (i : Bool) : cP w F' N' (tuL φ σ i ls) vs := by
  refine ⟨by rw [aAx, h.1], fun j l v h1 h2 => ?_⟩
  rw [xT, List.getElem?_map, Option.map_eq_some_iff] at h1
  obtain ⟨l0, hl0, rfl⟩ := h1
  exact dQ.tu hok (h.2 j l0 v hl0 h2) (aJ2 hp l0 (List.mem_of_getElem? hl0)) i
def tuS (φ : Fl true → Fl true) (σ : Fl true → Bool) : SV true → SV true
  | .leaf l => .leaf (tuF φ σ false l)
  | .own _ es => .leaf (tuF φ σ false (.sl (Fl.new true) es))
  | .agg cs => .agg (tuL φ σ false cs)
  | _ => .any
def aN5 (p : Fl true → Bool) : SV true → Bool
  | .leaf l => aOt p l
  | .own _ es => p (Fl.new true) && aQP p es
  | .agg cs => aKB p cs
  | _ => true
theorem aRo {p : Fl true → Bool} {w : World} {F F' : Fr} {N N' : Env} (hok : aPT p φ σ w F N F' N') {Ow Ow' : Own} {bm bm' : Nat → Nat} {al al' : Nat → Bool} {loc loc' : Loc} {x : SV true} {v : Value} (hx : aN5 p x = true) (h : aU P w F N Ow bm al loc x v) :
    aU P w F' N' Ow' bm' al' loc' (tuS φ σ x) v := by
  cases x with
  | leaf l => exact aU.leaf (dQ.tu hok (show dQ w F N l v by simpa [aU, dB] using h) hx false)
  | own e es => exact aU.leaf (dQ.tu hok (kT.leaf h) (by rw [aOt]; exact hx) false)
  | agg cs =>
    obtain ⟨vs, e, hr⟩ : ∃ vs, v = .agg vs ∧ cP w F N cs vs.toList := by simpa [aU, dB] using h
    have h2 : ∃ vs, v = .agg vs ∧ cP w F' N' (tuL φ σ false cs) vs.toList := ⟨vs, e, cP.tu hok hr hx false⟩
    simpa [tuS, aU, dB] using h2
  | _ => exact aU.any
abbrev tQ : Fl true := xM.tag 3 false
def aRF : Fl true → Bool := fun c => match c with | xM.tag 3 _ => true | _ => false
def tuB (φ : Fl true → Fl true) (σ : Fl true → Bool) (bs : fZ true) : SV true → SV true
  | .ptr b o => match (bB bs b).bind cG with
    | some (l :: ls) => .eptr tQ (tuL φ σ false (l :: ls)) o
    | _ => .any
  | .eptr c e o => if aRF c then .eptr tQ (tuL φ σ false e) o else .any
  | x => tuS φ σ x
def yQ (p : Fl true → Bool) (bs : fZ true) : SV true → Bool
  | .ptr b _ => match (bB bs b).bind cG with
    | some ls => aKB p ls
    | none => true
  | .eptr c e _ => !(aRF c) || aKB p e
  | x => aN5 p x
theorem aQa {bs : fZ true} {b : Nat} {o : Nat} {ls : List (aA true)} (h : (bB bs b).bind cG = some ls) (hne : ls ≠ []) : tuB φ σ bs (.ptr b o) = .eptr tQ (tuL φ σ false ls) o := by
  cases ls with
  | nil => exact absurd rfl hne
  | cons l ls => simp only [tuB, h]
theorem aPC {bs : fZ true} {b : Nat} {o : Nat} (h : (bB bs b).bind cG = some []) : tuB φ σ bs (.ptr b o) = .any := by
  simp only [tuB, h]
theorem aQi {bs : fZ true} {b : Nat} {o : Nat} (h : (bB bs b).bind cG = none) : tuB φ σ bs (.ptr b o) = .any := by
  simp only [tuB, h]
theorem aLN {p : Fl true → Bool} {bs : fZ true} {b : Nat} {o : Nat} {ls : List (aA true)} (h : (bB bs b).bind cG = some ls) : yQ p bs (.ptr b o) = aKB p ls := by
  simp only [yQ, h]
def aGd (F : Fr) (w : World) : Fr := fun g => max (F g) (vN w g)
theorem aMw (F : Fr) (w : World) (g : Nat) : F g ≤ aGd F w g := Nat.le_max_left _ _
theorem aPb {F : Fr} {w : World} {g : Nat} (h : F g = 0) (hg : w.heap.size ≤ g) : aGd F w g = 0 := by
  unfold aGd vN
  rw [h, Array.getElem?_eq_none hg]; rfl
theorem aPr {F : Fr} {w : World} {g : Nat} {cur : Array Value} {e : TypeId} {k : Nat × Nat} (h : w.heap[g]? = some (.cells cur e k)) : cur.size ≤ aGd F w g := by
  unfold aGd vN
  rw [h]; exact Nat.le_max_right _ _
structure aP4 (bs : fZ true) (bm : Nat → Nat) (F : Fr) (N : Env) (F' : Fr) (N' : Env) : Prop where
  box : ∀ b cs, bB bs b = some cs → cs ≠ [] → cs.length ≤ F' (bm b) ∧ N'.T 3 (bm b) = true ∧ N'.Z (bm b) = false
  row : ∀ g, N.T 3 g = true → F g ≤ F' g ∧ N'.T 3 g = true ∧ N'.Z g = false
theorem aOH {fn : Func} {W : World} {N N' : Env} {s : St true} {a : Act} {w : World} {F F' : Fr} {Ow : Own} {bm : Nat → Nat} (h : xS P fn W N s a w F Ow bm) {p : Fl true → Bool} (hok : aPT p φ σ w F N F' N') (hb : aP4 s.boxes bm F N F' N') {Ow' : Own} {bm' : Nat → Nat} {al' : Nat → Bool} {loc loc' : Loc} {x : SV true} {v : Value}
    (hx : yQ p s.boxes x = true) (hr : aU P w F N Ow bm (fun b => (bB s.boxes b).isSome) loc x v) : aU P w F' N' Ow' bm' al' loc' (tuB φ σ s.boxes x) v := by
  cases x with
  | ptr b o =>
    cases hl : (bB s.boxes b).bind cG with
    | none => rw [aQi hl]; exact aU.any
    | some ls =>
      by_cases hl0 : ls = []
      · subst hl0; rw [aPC hl]; exact aU.any
      rw [aQa hl hl0]
      rw [aLN hl] at hx
      obtain ⟨cs, hcs, hls⟩ := Option.bind_eq_some_iff.1 hl
      have hne : cs ≠ [] := by rintro rfl; simp [cG] at hls; exact hl0 hls
      have hv : v = .pointer (some ⟨bm b, o, none⟩) ∧ (bB s.boxes b).isSome = true := by simpa only [aU, dB] using hr
      obtain ⟨vals, h0, h1, hrr⟩ : ∃ vals : List Value, vals.length = cs.length ∧ (∀ (j : Nat) (u : Value), vals[j]? = some u → w.cell? ⟨bm b, j, none⟩ = some u) ∧ cP w F N ls vals := by
        rcases h.inv.box b cs hcs with rfl | ⟨cur, et, h1, h2, h3, h4, h5⟩
        · simp [cG] at hls; subst hls; exact ⟨[], rfl, by simp, cP.nil _ _ _⟩
        · have hcl := Array.length_toList (xs := cur)
          refine ⟨cur.toList.take cs.length, by rw [List.length_take]; omega, fun j u hj => ?_, vR (P := P) (Ow := Ow) (bm := bm) (al := fun b => (bB s.boxes b).isSome) cs _ ls (fun j => .box b j) hls (by rw [List.length_take]; omega) fun j c u hc hu => ?_⟩
          · rw [List.getElem?_take] at hj
            split at hj
            · rw [qE h1]; simpa using hj
            · simp at hj
          · rw [List.getElem?_take] at hu
            split at hu
            · exact h5 j c u hc (by simpa using hu)
            · simp at hu
      obtain ⟨q1, q2, q3⟩ := hb.box b cs hcs hne
      have hr2 := cP.tu hok hrr hx false
      have goal : dB (m := true) w F' N' bm' al' (.eptr tQ (tuL φ σ false ls) o) v := by
        refine ⟨bm b, 0, vals, by rw [hv.1, Nat.zero_add], ?_, ⟨q2, fun hz => by rw [q3] at hz; simp at hz⟩, hr2, fun j u hj => ?_⟩
        · have := hrr.1; rw [aAx, Nat.zero_add]; omega
        · rw [Nat.zero_add]; exact h1 j u hj
      simpa only [aU] using goal
  | eptr c e o =>
    cases hte : aRF c with
    | false =>
      rw [show tuB φ σ s.boxes (.eptr c e o) = .any by simp only [tuB, hte]; rfl]
      exact aU.any
    | true =>
      rw [show tuB φ σ s.boxes (.eptr c e o) = .eptr tQ (tuL φ σ false e) o by simp only [tuB, hte]; rfl]
      have hp : aKB p e = true := by simpa [yQ, hte] using hx
      obtain ⟨g, q, vals, hz, hle, hso, hrr, hc⟩ : ∃ g q vals, v = .pointer (some ⟨g, q + o, none⟩) ∧ q + e.length ≤ F g ∧ (c.At N g ∧ (N.Z g = true → ∀ l ∈ e, l.soft = true)) ∧ cP w F N e vals ∧ ∀ (j : Nat) (u : Value), vals[j]? = some u → w.cell? ⟨g, q + j, none⟩ = some u := by simpa only [aU, dB] using hr
      have ht : N.T 3 g = true := by
        cases c with
        | tag k f =>
          have hk : k = 3 := by
            rcases k with _ | _ | _ | _ | k <;> first | rfl | cases hte
          subst hk; exact hso.1
        | _ => cases hte
      obtain ⟨q1, q2, q3⟩ := hb.row g ht
      have goal : dB (m := true) w F' N' bm' al' (.eptr tQ (tuL φ σ false e) o) v := by
        refine ⟨g, q, vals, hz, ?_, ⟨q2, fun hz => by rw [q3] at hz; simp at hz⟩, cP.tu hok hrr hp false, hc⟩
        rw [aAx]; omega
      simpa only [aU] using goal
  | _ => first | exact aU.any | (simp only [tuB]; exact aRo hok (by simpa only [yQ] using hx) hr)
def tuT (φ : Fl true → Fl true) (σ : Fl true → Bool) (bs : fZ true) (ds : List Nat) : Nat → List (SV true) → List (SV true)
  | _, [] => []
  | i, x :: r => (if ds.contains i then .any else tuB φ σ bs x) :: tuT φ σ bs ds (i + 1) r
theorem aAC {bs : fZ true} (ds : List Nat) : ∀ (i : Nat) (l : List (SV true)), (tuT φ σ bs ds i l).length = l.length
  | _, [] => rfl
  | i, x :: r => by rw [tuT, List.length_cons, List.length_cons, aAC ds (i + 1) r]
theorem aLK {bs : fZ true} (ds : List Nat) : ∀ (i : Nat) (l : List (SV true)) (t : Nat), (tuT φ σ bs ds i l).getD t .any = .any ∨ (ds.contains (i + t) = false ∧ (tuT φ σ bs ds i l).getD t .any = tuB φ σ bs (l.getD t .any))
  | i, [], t => by left; simp [tuT]
  | i, x :: r, 0 => by
    cases h : ds.contains i with
    | true => left; simp only [tuT, h, if_true]; rfl
    | false => right; exact ⟨rfl, by simp only [tuT, h]; rfl⟩
  | i, x :: r, t + 1 => by
    have := aLK (bs := bs) ds (i + 1) r t
    rw [show i + 1 + t = i + (t + 1) by omega] at this
    simpa [tuT] using this
def turn (φ : Fl true → Fl true) (σ : Fl true → Bool) (ds : List Nat) (s : St true) : St true := { tmps := tuT φ σ s.boxes ds 0 s.tmps, boxes := s.boxes.map fun _ => none }
def aC9 (p : Fl true → Bool) (bs : fZ true) (ds : List Nat) : Nat → List (SV true) → Bool
  | _, [] => true
  | i, x :: r => (ds.contains i || yQ p bs x) && aC9 p bs ds (i + 1) r
theorem aBw {p : Fl true → Bool} {bs : fZ true} (ds : List Nat) : ∀ (i : Nat) (l : List (SV true)) (t : Nat), aC9 p bs ds i l = true → ds.contains (i + t) = false → yQ p bs (l.getD t .any) = true
  | _, [], t, _, _ => by simp [yQ, aN5]
  | i, x :: r, 0, h, hd => by
    simp only [aC9, Bool.and_eq_true] at h
    rw [Nat.add_zero] at hd
    have := h.1; rw [hd] at this; simpa using this
  | i, x :: r, t + 1, h, hd => by
    simp only [aC9, Bool.and_eq_true] at h
    have := aBw ds (i + 1) r t h.2 (by rw [show i + 1 + t = i + (t + 1) by omega]; exact hd)
    simpa using this
theorem aFl (bs : fZ true) (b : Nat) : bB (m := true) (bs.map fun _ => none) b = none := by
  unfold bB
  rw [List.getD_eq_getElem?_getD, List.getElem?_map]
  cases bs[b]? <;> rfl
section
variable {fn : Func} {W : World} {N N' : Env} {s : St true} {a : Act} {w : World} {F F' : Fr} {Ow : Own} {bm : Nat → Nat}
theorem xS.turn (h : xS P fn W N s a w F Ow bm) (φ : Fl true → Fl true) (σ : Fl true → Bool) (ds : List Nat) (p : Fl true → Bool) (hsl : aC9 p s.boxes ds 0 s.tmps = true) (hok : aPT p φ σ w F N F' N') (hbx : aP4 s.boxes bm F N F' N') (hn : N'.n ≤ w.heap.size) (hF : ∀ g, w.heap.size ≤ g → F' g = 0) (hKK : N'.K = N.K) (hle : ∀ g, F g ≤ F' g) (hKZ : ∀ k ∈ N.K, N'.Z k.1.1 = false)
    (hz : ∀ g, N'.Z g = true → W.heap.size ≤ g ∧ lW w g) (hBB : N'.B = [] := by rfl) : xS P fn W N' (turn φ σ ds s) a w F' (fun _ => none) (fun _ => w.heap.size) := by
  refine ⟨⟨by show (tuT φ σ s.boxes ds 0 s.tmps).length = _; rw [aAC]; exact h.inv.len, fun t => ?_, fun b cs hb => ?_, ⟨hn, fun k hk => by
    rw [hKK] at hk
    obtain ⟨h1, h2, h3⟩ := h.inv.low.know k hk
    exact ⟨Nat.lt_of_lt_of_le h1 (hle _), hKZ k hk, h3⟩, fun k hk => by rw [hBB] at hk; cases hk⟩, fun g hg => ⟨hF g hg, rfl⟩, fun b cs hb => ?_, fun g hg => ⟨rfl, (hz g hg).2⟩⟩, by show (s.boxes.map _).length = _; rw [List.length_map]; exact h.len, h.defers, h.bel, fun _ _ => rfl, fun g hg => ?_⟩
  · show aU P w F' N' _ _ _ _ ((tuT φ σ s.boxes ds 0 s.tmps).getD t .any) _
    rcases aLK (φ := φ) (σ := σ) ds 0 s.tmps t with h1 | ⟨h0, h1⟩
    · rw [h1]; exact aU.any
    · rw [h1]
      exact aOH h hok hbx (aBw ds 0 s.tmps t hsl h0) (h.inv.slot t)
  · rw [show (Vs.turn φ σ ds s).boxes = s.boxes.map fun _ => none from rfl, aFl] at hb; simp at hb
  · rw [show (Vs.turn φ σ ds s).boxes = s.boxes.map fun _ => none from rfl, aFl] at hb; simp at hb
  · cases hZ : N'.Z g with
    | false => rfl
    | true => have := (hz g hZ).1; omega
def aP3 (s : St true) (t z n k : Nat) : St true := { tmps := s.tmps.set t (.bsl t z 0 n), boxes := s.boxes.set t (some (List.replicate k .any)) }
theorem xS.row (h : xS P fn W N s a w F Ow bm) (φ : Fl true → Fl true) (ds : List Nat) (p : Fl true → Bool) {t : Nat} (ht : t < s.tmps.length) (ht2 : t < fn.ntmps) {c : Fl true} {es : List (List (aA true))} {z : Nat}
    (hslot : s.tmps.getD t .any = .leaf (.sl c es)) (hpos : 0 < es.length) (hez : ∀ e ∈ es, e.length = z) (hsl : aC9 p s.boxes ds 0 s.tmps = true)
    (hc : ∀ g o, g < w.heap.size → c.Holds N w g o → o = 0 ∧ lW w g ∧ N'.n ≤ g ∧ W.heap.size ≤ g ∧ ∀ c' o', p c' = true → ¬ c'.Holds N w g o')
    (hp : ∀ c g o, p c = true → c.Holds N w g o → (φ c).Holds N' w g o ∧ (φ c).isSoft = false)
    (hbx : ∀ g, g < w.heap.size → 0 < F g → c.Holds N w g 0 → aP4 s.boxes bm F N (fun x => if x = g then 0 else aGd F w x) N') (hZ : ∀ g, N'.Z g = false) (hn : N'.n ≤ w.heap.size) (hKK : N'.K = N.K) (hKw : ∀ k ∈ N.K, k.1.1 < W.heap.size) (hBB : N'.B = [] := by rfl) :
    ∃ k F' Ow' bm', es.length * z ≤ k ∧ xS P fn W N' (aP3 (Vs.turn φ (fun _ => false) ds s) t z es.length k) a w F' Ow' bm' := by
  have hs := h.inv.slot t
  rw [hslot] at hs
  obtain ⟨A, cap, z', vals, hv, hcap, hz', hvl, hcell, hr⟩ := aDd (show dQ w F N (.sl c es) (a.tmps.getD t undef) by simpa [aU, dB] using hs)
  obtain ⟨g, o, rfl, ⟨hv0, hH⟩, hle, hso, hcl⟩ := hcell hpos
  have hzz : z' = z := by
    obtain ⟨e, he⟩ : ∃ e, e ∈ es := by cases es with | nil => simp at hpos | cons e r => exact ⟨e, by simp⟩
    rw [← hz' e he, hez e he]
  subst hzz
  have hg := aLJ (hcl 0 _ (List.getElem?_eq_getElem hv0))
  obtain ⟨rfl, ⟨cur, et, hcur⟩, hn1, hn2, hne⟩ := hc g o hg hH
  have hk : es.length * z' ≤ cur.size := by
    rw [← hvl]
    have := hcl (vals.length - 1) _ (List.getElem?_eq_getElem (by omega))
    simp only [World.cell?, hcur] at this
    have := (Array.getElem?_eq_some_iff.1 (by simpa using this)).1
    omega
  have hok : aPT p φ (fun _ => false) w F N (fun x => if x = g then 0 else aGd F w x) N' := by
    intro c' g' o' hp' hg' _ hH'
    have hgg : g' ≠ g := fun e => (hne c' o' hp') (e ▸ hH')
    obtain ⟨h1, h2⟩ := hp c' g' o' hp' hH'
    exact ⟨by simp [hgg, aMw], .inr ⟨rfl, h1, h2, hZ g'⟩⟩
  have hb : ∀ b cs, bB (aP3 (Vs.turn φ (fun _ => false) ds s) t z' es.length cur.size).boxes b = some cs → b = t ∧ cs = List.replicate cur.size .any := by
    intro b cs hb
    have hb' : bB ((s.boxes.map fun _ => none).set t (some (List.replicate cur.size SV.any))) b = some cs := hb
    by_cases hbt : b = t
    · subst hbt
      rw [eB (by rw [List.length_map, h.len]; exact ht2)] at hb'
      exact ⟨rfl, (Option.some.inj hb').symm⟩
    · rw [hU hbt, aFl] at hb'; simp at hb'
  have hal : (bB (aP3 (Vs.turn φ (fun _ => false) ds s) t z' es.length cur.size).boxes t).isSome = true := by
    show (bB ((s.boxes.map fun _ => none).set t (some (List.replicate cur.size SV.any))) t).isSome = true
    rw [eB (by rw [List.length_map, h.len]; exact ht2)]; rfl
  refine ⟨cur.size, fun x => if x = g then 0 else aGd F w x, fun x => if x = g then some (.blk t) else none, fun _ => g, hk, ⟨⟨?_, fun u => ?_, fun b cs hbc => ?_, ⟨hn, fun k hk => by
    rw [hKK] at hk
    obtain ⟨h1, h2, h3⟩ := h.inv.low.know k hk
    have hne : k.1.1 ≠ g := fun e => by have := hKw k hk; omega
    exact ⟨by simp only [if_neg hne]; exact Nat.lt_of_lt_of_le h1 (aMw F w _), hZ _, h3⟩, fun k hk => by rw [hBB] at hk; cases hk⟩, fun x hx => ?_, fun b cs hbc => hn1, fun x hx => by rw [hZ] at hx; simp at hx⟩, ?_, h.defers, h.bel, fun x hx => ?_, fun x hx => hZ x⟩⟩
  · show ((tuT φ (fun _ => false) s.boxes ds 0 s.tmps).set t _).length = _
    rw [List.length_set, aAC]; exact h.inv.len
  · show aU P w _ N' _ _ _ _ (((tuT φ (fun _ => false) s.boxes ds 0 s.tmps).set t (.bsl t z' 0 es.length)).getD u .any) _
    by_cases hut : u = t
    · subst hut
      rw [List.getD_eq_getElem?_getD, List.getElem?_set_self (by rw [aAC]; exact ht), Option.getD_some, hv]
      simp only [aU, dB]
      exact ⟨.inr ⟨cap, by simp, hcap⟩, hal⟩
    · rw [List.getD_eq_getElem?_getD, List.getElem?_set_ne (fun e => hut e.symm), ← List.getD_eq_getElem?_getD]
      rcases aLK (φ := φ) (σ := fun _ => false) ds 0 s.tmps u with h1 | ⟨h0, h1⟩
      · rw [h1]; exact aU.any
      · rw [h1]
        exact aOH h hok (hbx g hg (by omega) hH) (aBw ds 0 s.tmps u hsl h0) (h.inv.slot u)
  · obtain ⟨rfl, rfl⟩ := hb b cs hbc
    refine .inr ⟨cur, et, hcur, by rw [List.length_replicate]; exact Nat.le_refl _, by simp, by simp, fun j c u h1 _ => ?_⟩
    have : c = .any := by
      rw [List.getElem?_replicate] at h1
      split at h1 <;> simp at h1
      exact h1.symm
    subst this
    exact aU.any
  · have hx' : x ≠ g := fun e => by subst e; omega
    simp [hx', aPb (h.inv.new x hx).1 hx]
  · show ((s.boxes.map _).set t _).length = _
    rw [List.length_set, List.length_map]; exact h.len
  · have : x ≠ g := fun e => by subst e; omega
    simp [this]
end
end Go.Vs
end
section
set_option linter.unusedVariables false
namespace Go.Vs
variable {m : Bool} {P : Program} {f : FuncId} {fn : Func} {c0 : Code}
def p2 : Fl true → Bool := fun c => match c with | xM.new => true | xM.tag 0 _ => true | _ => false
section
variable {W w : World} {N : Env} {s : St true} {a : Act} {F : Fr} {Ow : Own} {bm : Nat → Nat}
theorem xS.box_lt (h : xS P fn W N s a w F Ow bm) {b : Nat} {cs : List (SV true)} (hb : bB s.boxes b = some cs) (hne : cs ≠ []) : bm b < w.heap.size ∧ F (bm b) = 0 ∧ N.n ≤ bm b ∧ cs.length ≤ aGd F w (bm b) := by
  obtain ⟨cur, et, h1, h2, h3, _⟩ := (h.inv.box b cs hb).resolve_left hne
  exact ⟨(Array.getElem?_eq_some_iff.1 h1).1, h3, h.inv.bmn b cs hb, Nat.le_trans h2 (aPr h1)⟩
end
end Go.Vs
end
section
set_option linter.unusedVariables false
namespace Go.Vs
theorem bC {i : Nat} (h : i < maxLen) : IntKind.i64.wrap ((i : Int) + 1) = ((i + 1 : Nat) : Int) := by
  have hm : maxLen = 9223372036854775807 := rfl
  rw [sN (by omega) (by omega)]; rfl
mutual
def szF : aA false → Int → Int
  | .str s, n => if IntKind.i64.wrap (n - (s.size : Int)) < 0 then -1 else IntKind.i64.wrap (n - (s.size : Int))
  | .sl _ es, n => if IntKind.i64.wrap (n - (es.length : Int)) < 0 then -1 else szE es (IntKind.i64.wrap (n - (es.length : Int)))
  | .bool _, n => n
  | .int _ _, n => n
  | .unk, n => n
  | .nl _, n => n
def szL : List (aA false) → Int → Int
  | [], n => n
  | l :: r, n => if szF l n < 0 then -1 else szL r (szF l n)
def szE : List (List (aA false)) → Int → Int
  | [], n => n
  | e :: es, n => if szL e n < 0 then -1 else szE es (szL e n)
end
theorem aJb : ∀ (a b : List (aA false)) (n : Int), 0 ≤ n → szL (a ++ b) n = if szL a n < 0 then -1 else szL b (szL a n)
  | [], b, n, h => by simp [szL, Int.not_lt.2 h]
  | l :: a, b, n, h => by
    simp only [List.cons_append, szL]
    by_cases h1 : szF l n < 0
    · simp [h1]
    · simp only [h1, if_false]
      exact aJb a b _ (by omega)
section
variable {r : List (aA false)} {n : Int}
abbrev aG (n : Int) : SV false := .leaf (.int .i64 n)
abbrev aN (b : Bool) : SV false := .leaf (.bool b)
abbrev vsl (es : List (List (aA false))) : SV false := .leaf (.sl fP es)
abbrev Res := Option (SV false × List (List (SV false)))
theorem rI {s : ByteArray} {Y : Res} (g : 0 ≤ IntKind.i64.wrap (n - (s.size : Int)) → Y = some (aG (szL r (IntKind.i64.wrap (n - (s.size : Int)))), [])) :
    aD (decide (IntKind.i64.wrap (n - (s.size : Int)) < 0)) (some (SV.leaf (aA.int .i64 (-1)), [])) Y = some (aG (szL (.str s :: r) n), []) := by
  rw [bO]
  by_cases h : IntKind.i64.wrap (n - (s.size : Int)) < 0
  · simp [h, szL, szF]
  · simp only [h, decide_false, Bool.false_eq_true, if_false, szL, szF]
    exact g (by omega)
theorem aNE {k : IntKind} {z : Int} {Y : Res} (hn : 0 ≤ n) (g : Y = some (aG (szL r n), [])) : Y = some (aG (szL (.int k z :: r) n), []) := by
  rw [g]; simp [szL, szF, Int.not_lt.2 hn]
theorem aLX {b : Bool} {Y : Res} (hn : 0 ≤ n) (g : Y = some (aG (szL r n), [])) : Y = some (aG (szL (.bool b :: r) n), []) := by
  rw [g]; simp [szL, szF, Int.not_lt.2 hn]
theorem aIO {d : Res} {a : List (aA false)} {Y : Int → Res} (hd : d = some (aG (szL a n), [])) (hn : 0 ≤ n) (g : ∀ k, 0 ≤ k → Y k = some (aG (szL r k), [])) :
    (d.bind fun r => aV r.fst fun l => dU .i64 l fun n => aD (decide (n < 0)) (some (SV.leaf (aA.int .i64 (-1)), [])) (Y n)) = some (aG (szL (a ++ r) n), []) := by
  rw [hd, aJb _ _ _ hn]
  simp only [Option.bind_some, bV, cX, bO]
  by_cases h : szL a n < 0
  · simp [h]
  · simp only [h, decide_false, Bool.false_eq_true, if_false]
    exact g _ (by omega)
theorem jL {d : Res} {es : List (List (aA false))} {Y : Int → Res} (hd : d = some (aG (szF (.sl fP es) n), [])) (g : ∀ k, 0 ≤ k → Y k = some (aG (szL r k), [])) :
    (d.bind fun r => aV r.fst fun l => dU .i64 l fun n => aD (decide (n < 0)) (some (SV.leaf (aA.int .i64 (-1)), [])) (Y n)) = some (aG (szL (.sl fP es :: r) n), []) := by
  rw [hd]
  simp only [Option.bind_some, bV, cX, bO, szL]
  by_cases h : szF (.sl fP es) n < 0
  · simp [h]
  · simp only [h, decide_false, Bool.false_eq_true, if_false]
    exact g _ (by omega)
theorem aAE {es : List (List (aA false))} {Y : Res} (g : 0 ≤ IntKind.i64.wrap (n - (es.length : Int)) → Y = some (aG (szE es (IntKind.i64.wrap (n - (es.length : Int)))), [])) :
    aD (decide (IntKind.i64.wrap (n - (es.length : Int)) < 0)) (some (SV.leaf (aA.int .i64 (-1)), [])) Y = some (aG (szF (.sl fP es) n), []) := by
  rw [bO, szF]
  by_cases h : IntKind.i64.wrap (n - (es.length : Int)) < 0
  · simp [h]
  · simp only [h, decide_false, Bool.false_eq_true, if_false]
    exact g (by omega)
theorem xR {e : List (aA false)} {es : List (List (aA false))} {d : Res} {Y : Int → Res} (hd : d = some (aG (szL e n), [])) (g : ∀ k, 0 ≤ k → Y k = some (aG (szE es k), [])) :
    (d.bind fun r => aV r.fst fun l => dU .i64 l fun n => aD (decide (n < 0)) (some (SV.leaf (aA.int .i64 (-1)), [])) (Y n)) = some (aG (szE (e :: es) n), []) := by
  rw [hd]
  simp only [Option.bind_some, bV, cX, bO, szE]
  by_cases h : szL e n < 0
  · simp [h]
  · simp only [h, decide_false, Bool.false_eq_true, if_false]
    exact g _ (by omega)
theorem aQ0 {s : ByteArray} {es : List (List (aA false))} {Y : Res} (g : 0 ≤ IntKind.i64.wrap (n - (s.size : Int)) → Y = some (aG (szE es (IntKind.i64.wrap (n - (s.size : Int)))), [])) :
    aD (decide (IntKind.i64.wrap (n - (s.size : Int)) < 0)) (some (SV.leaf (aA.int .i64 (-1)), [])) Y = some (aG (szE ([.str s] :: es) n), []) := by
  rw [bO]
  by_cases h : IntKind.i64.wrap (n - (s.size : Int)) < 0
  · simp [h, szE, szL, szF]
  · simp only [h, decide_false, Bool.false_eq_true, if_false, szE, szL, szF]
    exact g (by omega)
end
mutual
def tF : aA false → Nat
  | .sl _ es => es.length + tE es
  | _ => 0
def tL : List (aA false) → Nat
  | [] => 0
  | l :: r => tF l + tL r
def tE : List (List (aA false)) → Nat
  | [] => 0
  | e :: es => tL e + tE es
end
mutual
def okF (z : Nat) : aA false → Prop
  | .str s => s.size ≤ maxLen
  | .sl _ es => es.length ≤ maxLen ∧ okE z es
  | _ => True
def okL (z : Nat) : List (aA false) → Prop
  | [] => True
  | l :: r => okF z l ∧ okL z r
def okE (z : Nat) : List (List (aA false)) → Prop
  | [] => True
  | e :: es => e.length ≤ z ∧ okL z e ∧ okE z es
end
def cap : Int := 4611686018427387904
mutual
theorem aRs {z : Nat} : ∀ (l : aA false) (n : Int), okF z l → 0 ≤ n → n ≤ cap → 0 ≤ szF l n → szF l n ≤ n ∧ (tF l : Int) ≤ n - szF l n
  | .str s, n, ho, h0, hn, h => by
    have hm : maxLen = 9223372036854775807 := rfl
    simp only [okF] at ho
    simp only [szF, tF, cap] at *
    rw [sN (by omega) (by omega)] at h ⊢
    split at h <;> simp_all <;> omega
  | .sl _ es, n, ho, h0, hn, h => by
    have hm : maxLen = 9223372036854775807 := rfl
    simp only [okF] at ho
    simp only [szF, tF] at *
    rw [sN (by simp only [cap] at hn; omega) (by simp only [cap] at hn; omega)] at h ⊢
    by_cases hl : n - (es.length : Int) < 0
    · simp [hl] at h
    · simp only [hl, if_false] at h ⊢
      have := aRy es (n - es.length) ho.2 (by omega) (by omega) h
      omega
  | .bool _, n, _, _, _, _ => by simp [szF, tF]
  | .int _ _, n, _, _, _, _ => by simp [szF, tF]
  | .unk, n, _, _, _, _ => by simp [szF, tF]
  | .nl _, n, _, _, _, _ => by simp [szF, tF]
theorem aMS {z : Nat} : ∀ (l : List (aA false)) (n : Int), okL z l → 0 ≤ n → n ≤ cap → 0 ≤ szL l n → szL l n ≤ n ∧ (tL l : Int) ≤ n - szL l n
  | [], n, _, _, _, _ => by simp [szL, tL]
  | l :: r, n, ho, h0, hn, h => by
    simp only [okL] at ho
    simp only [szL, tL] at *
    by_cases hl : szF l n < 0
    · simp [hl] at h
    · simp only [hl, if_false] at h ⊢
      have h1 := aRs l n ho.1 h0 hn (by omega)
      have h2 := aMS r _ ho.2 (by omega) (by omega) h
      omega
theorem aRy {z : Nat} : ∀ (l : List (List (aA false))) (n : Int), okE z l → 0 ≤ n → n ≤ cap → 0 ≤ szE l n → szE l n ≤ n ∧ (tE l : Int) ≤ n - szE l n
  | [], n, _, _, _, _ => by simp [szE, tE]
  | e :: r, n, ho, h0, hn, h => by
    simp only [okE] at ho
    simp only [szE, tE] at *
    by_cases hl : szL e n < 0
    · simp [hl] at h
    · simp only [hl, if_false] at h ⊢
      have h1 := aMS e n ho.2.1 h0 hn (by omega)
      have h2 := aRy r _ ho.2.2 (by omega) (by omega) h
      omega
end
theorem aZ {m : Bool} {l : List (List (aA m))} {i : Nat} (h : i < l.length) : l.getD i [] = l[i] := by simp [List.getD, h]
theorem dG {α : Type} {l : List α} {i : Nat} (h : i < l.length) : l.drop i = l[i] :: l.drop (i + 1) := List.drop_eq_getElem_cons h
theorem aQ {m : Bool} {z : Nat} {es : List (List (aA m))} (h : ∀ e ∈ es, e.length = z) : sized z es = true := by
  simp only [sized, List.all_eq_true, beq_iff_eq]; exact h
theorem lR {z : Nat} : ∀ {es : List (List (aA false))}, (∀ e ∈ es, e.length ≤ z ∧ okL z e) → okE z es
  | [], _ => by simp [okE]
  | e :: r, h => by
    simp only [okE]
    exact ⟨(h e (by simp)).1, (h e (by simp)).2, lR fun x hx => h x (by simp [hx])⟩
theorem aAH : ∀ {es : List (List (aA false))} {e : List (aA false)}, e ∈ es → tL e ≤ tE es
  | x :: r, e, h => by
    simp only [tE]
    rcases List.mem_cons.1 h with rfl | h
    · omega
    · have := aAH h; omega
def dP (e : List (aA false)) : Prop := ∃ s : ByteArray, e = [.str s] ∧ s.size ≤ maxLen
theorem dP.len {e : List (aA false)} (h : dP e) : e.length = 1 := by obtain ⟨s, rfl, _⟩ := h; rfl
theorem dP.ok {e : List (aA false)} (h : dP e) : okL 16 e := by obtain ⟨s, rfl, hs⟩ := h; simp only [okL, okF]; exact ⟨hs, trivial⟩
end Go.Vs
namespace Go.Vs
variable {m : Bool}
theorem aLL {v l : List (SV m)} {p : Nat} (h : p + l.length ≤ v.length) : (mR v p l).length = v.length := by
  unfold mR
  simp only [List.length_append, List.length_take, List.length_drop]
  omega
end Go.Vs
namespace Go.Vs
end Go.Vs
end
