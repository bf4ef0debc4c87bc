/- A reading of the same code that comes to a short term by computing alone: what hangs on numbers stands as a guard, what comes out of memory or out of a call is cast by its type. Where it tells something, the shadow runner tells the same. -/
import Derived.Test.YtdnbagcbdagofaaVVsLim
set_option linter.unusedVariables false
set_option linter.unusedSimpArgs false
namespace Go.Vs
variable {m : Bool}
section
variable {β : Type}
def intK (k0 : IntKind) (l : (Leaf m)) (k : Int → Option β) : Option β := match l with | .int k1 n => if k1 = k0 then k n else none | _ => none
def boolK (l : (Leaf m)) (k : Bool → Option β) : Option β := match l with | .bool b => k b | _ => none
def strK (l : (Leaf m)) (k : ByteArray → Option β) : Option β := match l with | .str s => k s | _ => none
def slK (l : (Leaf m)) (k : Fl m → List (List (Leaf m)) → Option β) : Option β := match l with | .sl c es => k c es | _ => none
def leafK (P : Program) (t : TypeId) (l : (Leaf m)) (k : (Leaf m) → Option β) : Option β :=
  match P.underlying t with
  | some (.int k0) => intK k0 l fun n => k (.int k0 n)
  | some .bool => boolK l fun b => k (.bool b)
  | some .string => strK l fun s => k (.str s)
  | some (.slice _) => slK l fun c es => k (.sl c es)
  | _ => none
def atK (e : List (Leaf m)) (p : Nat) (k : (Leaf m) → Option β) : Option β := match e[p]? with | some l => k l | none => none
def cellsAtK (P : Program) : List TypeId → List (Leaf m) → Nat → (List (Leaf m) → Option β) → Option β
  | [], _, _, k => k []
  | t :: ts, e, p, k => atK e p fun l => leafK P t l fun l' => cellsAtK P ts e (p + 1) fun ls => k (l' :: ls)
/-- The types of a variable's cells. -/
def flatTs (P : Program) : Nat → TypeId → Option (List TypeId)
  | 0, _ => none
  | n + 1, t => match P.underlying t with
    | some (.struct fs) => fs.toList.foldr (fun f r => (flatTs P n f.type).bind fun a => r.map (a ++ ·)) (some [])
    | some (.array _ _) | none => none
    | some _ => some [t]
/-- A row, named. -/
def bindE (e : List (Leaf m)) (k : List (Leaf m) → Option β) : Option β := k e
def partK (P : Program) (t : TypeId) (e : List (Leaf m)) (p : Nat) (k : (SV m) → Option β) : Option β :=
  match isAggT P t with
  | true => (flatTs P 8 t).bind fun ts => (sizeT P t).bind fun n => if ts.length = n ∧ 0 < n then bindE e fun e => cellsAtK P ts e p fun ls => k (.agg ls) else none
  | false => atK e p fun l => leafK P t l fun l' => k (.leaf l')

def svLeafK (v : (SV m)) (k : (Leaf m) → Option β) : Option β := match v with | .leaf l => k l | _ => none
def svSlK (v : (SV m)) (k : Fl m → List (List (Leaf m)) → Option β) : Option β := match v with | .leaf (.sl c es) => k c es | _ => none
def svOwnK (e : TypeId) (v : (SV m)) (k : List (List (Leaf m)) → Option β) : Option β := match v with | .own (some e') es => if e' = e then k es else none | _ => none
def svAggK (v : (SV m)) (k : List (Leaf m) → Option β) : Option β := match v with | .agg cs => k cs | _ => none
def svNilK (v : (SV m)) (k : Option β) : Option β := match v with | .nilface => k | _ => none
def svTupK (v : (SV m)) (k : List (SV m) → Option β) : Option β := match v with | .tup vs => k vs | _ => none
def cast1K (P : Program) (own : Bool) (t : TypeId) (v : (SV m)) (k : (SV m) → Option β) : Option β :=
  match P.underlying t with
  | some (.slice e) => (match own with
    | true => svOwnK e v fun es => k (.own (some e) es)
    | false => svSlK v fun c es => k (.leaf (.sl c es)))
  | some (.struct _) => svAggK v fun cs => (flatTs P 8 t).bind fun ts => guarded (cs.length == ts.length) (cellsAtK P ts cs 0 fun ls => k (.agg ls))
  | some (.interface _) => svNilK v (k .nilface)
  | some _ => svLeafK v fun l => leafK P t l fun l' => k (.leaf l')
  | none => none
def headK (l : List (SV m)) (k : (SV m) → List (SV m) → Option β) : Option β := match l with | v :: r => k v r | [] => none
def lastK (l : List (SV m)) (k : Option β) : Option β := match l with | [] => k | _ => none
def castsK (P : Program) : List TypeId → List (SV m) → (List (SV m) → Option β) → Option β
  | [], l, k => lastK l (k [])
  | t :: ts, l, k => headK l fun v r => cast1K P false t v fun v' => castsK P ts r fun vs => k (v' :: vs)
def castK (P : Program) (own : Bool) (t : TypeId) (v : (SV m)) (k : (SV m) → Option β) : Option β :=
  match P.underlying t with
  | some (.tuple ts) => svTupK v fun vs => castsK P ts.toList vs fun vs' => k (.tup vs')
  | _ => cast1K P own t v k
/-- A cell as the one before was. -/
def likeK (c d : (SV m)) (k : (SV m) → Option β) : Option β :=
  match c with
  | .leaf (.int k0 _) => svLeafK d fun l => intK k0 l fun n => k (.leaf (.int k0 n))
  | .leaf (.bool _) => svLeafK d fun l => boolK l fun b => k (.leaf (.bool b))
  | .leaf (.str _) => svLeafK d fun l => strK l fun s => k (.leaf (.str s))
  | .leaf (.sl _ _) => svSlK d fun c es => k (.leaf (.sl c es))
  | .own (some e) _ => svOwnK e d fun es => k (.own (some e) es)
  | _ => none
def likesK : List (SV m) → List (SV m) → (List (SV m) → Option β) → Option β
  | [], l, k => lastK l (k [])
  | c :: cs, l, k => headK l fun d r => likeK c d fun d' => likesK cs r fun ds => k (d' :: ds)
/-- A cell of a row that may be long. -/
def atSV (cs : List (SV m)) (p : Nat) (k : (SV m) → Option β) : Option β := match cs[p]? with | some c => k c | none => none
def isPlainT (P : Program) (t : TypeId) : Bool := match P.underlying t with | some (.int _) | some .bool | some .string | some (.slice _) => true | _ => false
def dropK (P : Program) (t : TypeId) (c : (SV m)) (k : (SV m) → Option β) : Option β := match isPlainT P t with | true => cast1K P false t c.drop k | false => k c.drop
def headB (l : List (List (SV m))) (k : List (SV m) → List (List (SV m)) → Option β) : Option β := match l with | v :: r => k v r | [] => none
def lastB (l : List (List (SV m))) (k : Option β) : Option β := match l with | [] => k | _ => none
/-- What comes back of the boxes; of a row all that comes. -/
def boxK (row : Bool) (c d : List (SV m)) (k : List (SV m) → Option β) : Option β := match row with | true => k d | false => likesK c d k
def boxesK : List Bool → List (List (SV m)) → List (List (SV m)) → (List (List (SV m)) → Option β) → Option β
  | [], _, l, k => lastB l (k [])
  | w :: ws, [], l, k => lastB l (k [])
  | w :: ws, c :: cs, l, k => headB l fun d r => boxK w c d fun d' => boxesK ws cs r fun ds => k (d' :: ds)
end

/-! ### Casts tell the same value -/
section
variable {β : Type} {P : Program}
theorem intK_eq {k0 : IntKind} {l : (Leaf m)} {k : Int → Option β} {y : β} (h : intK k0 l k = some y) : ∃ n, l = .int k0 n ∧ k n = some y := by
  unfold intK at h
  split at h
  · split at h
    · rename_i hk; subst hk; exact ⟨_, rfl, h⟩
    · simp at h
  · simp at h
theorem boolK_eq {l : (Leaf m)} {k : Bool → Option β} {y : β} (h : boolK l k = some y) : ∃ n, l = .bool n ∧ k n = some y := by
  unfold boolK at h; split at h
  · exact ⟨_, rfl, h⟩
  · simp at h
theorem strK_eq {l : (Leaf m)} {k : ByteArray → Option β} {y : β} (h : strK l k = some y) : ∃ n, l = .str n ∧ k n = some y := by
  unfold strK at h; split at h
  · exact ⟨_, rfl, h⟩
  · simp at h
theorem slK_eq {l : (Leaf m)} {k : Fl m → List (List (Leaf m)) → Option β} {y : β} (h : slK l k = some y) : ∃ c es, l = .sl c es ∧ k c es = some y := by
  unfold slK at h; split at h
  · exact ⟨_, _, rfl, h⟩
  · simp at h
theorem leafK_eq {t : TypeId} {l : (Leaf m)} {k : (Leaf m) → Option β} {y : β} (h : leafK P t l k = some y) : k l = some y := by
  unfold leafK at h
  split at h
  · obtain ⟨n, rfl, h'⟩ := intK_eq h; exact h'
  · obtain ⟨n, rfl, h'⟩ := boolK_eq h; exact h'
  · obtain ⟨n, rfl, h'⟩ := strK_eq h; exact h'
  · obtain ⟨c, es, rfl, h'⟩ := slK_eq h; exact h'
  · simp at h
theorem atK_eq {e : List (Leaf m)} {p : Nat} {k : (Leaf m) → Option β} {y : β} (h : atK e p k = some y) : ∃ l, e[p]? = some l ∧ k l = some y := by
  unfold atK at h; split at h
  · exact ⟨_, by assumption, h⟩
  · simp at h
theorem cellsAtK_eq : ∀ (ts : List TypeId) (e : List (Leaf m)) (p : Nat) (k : List (Leaf m) → Option β) (y : β), cellsAtK P ts e p k = some y → (e.drop p).take ts.length = (e.drop p).take ts.length ∧ (ts.length = 0 ∨ p + ts.length ≤ e.length) ∧ k ((e.drop p).take ts.length) = some y
  | [], e, p, k, y, h => ⟨rfl, .inl rfl, by simpa [cellsAtK] using h⟩
  | t :: ts, e, p, k, y, h => by
    simp only [cellsAtK] at h
    obtain ⟨l, hl, h⟩ := atK_eq h
    have h := leafK_eq h
    obtain ⟨_, h2, h3⟩ := cellsAtK_eq ts e (p + 1) _ y h
    have hlt := (List.getElem?_eq_some_iff.1 hl).1
    have hd : e.drop p = l :: e.drop (p + 1) := by
      rw [List.drop_eq_getElem_cons hlt]
      congr 1
      exact (List.getElem?_eq_some_iff.1 hl).2
    refine ⟨rfl, .inr ?_, ?_⟩
    · simp only [List.length_cons]
      rcases h2 with h2 | h2 <;> omega
    · rw [hd]
      simpa using h3
theorem partK_eq {t : TypeId} {e : List (Leaf m)} {p : Nat} {k : (SV m) → Option β} {y : β} (h : partK P t e p k = some y) : ∃ v, partL P t e p = some v ∧ k v = some y := by
  unfold partK at h
  unfold partL
  split at h
  · rename_i ha
    rw [if_pos ha]
    rw [Option.bind_eq_some_iff] at h
    obtain ⟨ts, hts, h⟩ := h
    rw [Option.bind_eq_some_iff] at h
    obtain ⟨n, hn, h⟩ := h
    split at h
    · rename_i hl
      obtain ⟨_, h2, h3⟩ := cellsAtK_eq ts e p _ y h
      rw [hn]
      rw [hl.1] at h2 h3
      have hle : p + n ≤ e.length := by rcases h2 with h2 | h2 <;> omega
      exact ⟨.agg ((e.drop p).take n), by simp [hle], h3⟩
    · simp at h
  · rename_i ha
    rw [if_neg (by simp [ha])]
    obtain ⟨l, hl, h⟩ := atK_eq h
    have h := leafK_eq h
    exact ⟨.leaf l, by rw [hl]; rfl, h⟩

theorem svLeafK_eq {v : (SV m)} {k : (Leaf m) → Option β} {y : β} (h : svLeafK v k = some y) : ∃ l, v = .leaf l ∧ k l = some y := by
  unfold svLeafK at h; split at h
  · exact ⟨_, rfl, h⟩
  · simp at h
theorem svSlK_eq {v : (SV m)} {k : Fl m → List (List (Leaf m)) → Option β} {y : β} (h : svSlK v k = some y) : ∃ c es, v = .leaf (.sl c es) ∧ k c es = some y := by
  unfold svSlK at h; split at h
  · exact ⟨_, _, rfl, h⟩
  · simp at h
theorem svOwnK_eq {e : TypeId} {v : (SV m)} {k : List (List (Leaf m)) → Option β} {y : β} (h : svOwnK e v k = some y) : ∃ es, v = .own (some e) es ∧ k es = some y := by
  unfold svOwnK at h; split at h
  · split at h
    · rename_i he; subst he; exact ⟨_, rfl, h⟩
    · simp at h
  · simp at h
theorem svAggK_eq {v : (SV m)} {k : List (Leaf m) → Option β} {y : β} (h : svAggK v k = some y) : ∃ cs, v = .agg cs ∧ k cs = some y := by
  unfold svAggK at h; split at h
  · exact ⟨_, rfl, h⟩
  · simp at h
theorem svNilK_eq {v : (SV m)} {k : Option β} {y : β} (h : svNilK v k = some y) : v = .nilface ∧ k = some y := by
  unfold svNilK at h; split at h
  · exact ⟨rfl, h⟩
  · simp at h
theorem svTupK_eq {v : (SV m)} {k : List (SV m) → Option β} {y : β} (h : svTupK v k = some y) : ∃ vs, v = .tup vs ∧ k vs = some y := by
  unfold svTupK at h; split at h
  · exact ⟨_, rfl, h⟩
  · simp at h
theorem headK_eq {l : List (SV m)} {k : (SV m) → List (SV m) → Option β} {y : β} (h : headK l k = some y) : ∃ v r, l = v :: r ∧ k v r = some y := by
  unfold headK at h; split at h
  · exact ⟨_, _, rfl, h⟩
  · simp at h
theorem lastK_eq {l : List (SV m)} {k : Option β} {y : β} (h : lastK l k = some y) : l = [] ∧ k = some y := by
  unfold lastK at h; split at h
  · exact ⟨rfl, h⟩
  · simp at h
theorem cast1K_eq {own : Bool} {t : TypeId} {v : (SV m)} {k : (SV m) → Option β} {y : β} (h : cast1K P own t v k = some y) : k v = some y := by
  unfold cast1K at h
  split at h
  · split at h
    · obtain ⟨es, rfl, h'⟩ := svOwnK_eq h; exact h'
    · obtain ⟨c, es, rfl, h'⟩ := svSlK_eq h; exact h'
  · obtain ⟨cs, rfl, h'⟩ := svAggK_eq h
    rw [Option.bind_eq_some_iff] at h'
    obtain ⟨ts, hts, h2⟩ := h'
    obtain ⟨hl, h3⟩ := guarded_eq h2
    obtain ⟨_, _, h4⟩ := cellsAtK_eq ts cs 0 _ y h3
    have hl' : cs.length = ts.length := by simpa using hl
    rw [← hl', List.drop_zero, List.take_length] at h4
    exact h4
  · obtain ⟨rfl, h'⟩ := svNilK_eq h; exact h'
  · obtain ⟨l, rfl, h'⟩ := svLeafK_eq h
    exact leafK_eq h'
  · simp at h
theorem castsK_eq : ∀ (ts : List TypeId) (l : List (SV m)) (k : List (SV m) → Option β) (y : β), castsK P ts l k = some y → k l = some y
  | [], l, k, y, h => by
    simp only [castsK] at h
    obtain ⟨rfl, h'⟩ := lastK_eq h
    exact h'
  | t :: ts, l, k, y, h => by
    simp only [castsK] at h
    obtain ⟨v, r, rfl, h'⟩ := headK_eq h
    exact castsK_eq ts r _ y (cast1K_eq h')
theorem castK_eq {own : Bool} {t : TypeId} {v : (SV m)} {k : (SV m) → Option β} {y : β} (h : castK P own t v k = some y) : k v = some y := by
  unfold castK at h
  split at h
  · obtain ⟨vs, rfl, h'⟩ := svTupK_eq h
    exact castsK_eq _ _ _ y h'
  · exact cast1K_eq h
theorem likeK_eq {c d : (SV m)} {k : (SV m) → Option β} {y : β} (h : likeK c d k = some y) : k d = some y := by
  unfold likeK at h
  split at h
  · obtain ⟨l, rfl, h1⟩ := svLeafK_eq h; obtain ⟨n, rfl, h2⟩ := intK_eq h1; exact h2
  · obtain ⟨l, rfl, h1⟩ := svLeafK_eq h; obtain ⟨n, rfl, h2⟩ := boolK_eq h1; exact h2
  · obtain ⟨l, rfl, h1⟩ := svLeafK_eq h; obtain ⟨n, rfl, h2⟩ := strK_eq h1; exact h2
  · obtain ⟨c, es, rfl, h1⟩ := svSlK_eq h; exact h1
  · obtain ⟨es, rfl, h1⟩ := svOwnK_eq h; exact h1
  · simp at h
theorem likesK_eq : ∀ (cs l : List (SV m)) (k : List (SV m) → Option β) (y : β), likesK cs l k = some y → k l = some y
  | [], l, k, y, h => by
    simp only [likesK] at h
    obtain ⟨rfl, h'⟩ := lastK_eq h
    exact h'
  | c :: cs, l, k, y, h => by
    simp only [likesK] at h
    obtain ⟨v, r, rfl, h'⟩ := headK_eq h
    exact likesK_eq cs r _ y (likeK_eq h')
theorem lastB_eq {l : List (List (SV m))} {k : List (List (SV m)) → Option β} {y : β} (h : lastB l (k []) = some y) : k l = some y := by
  unfold lastB at h
  split at h
  · exact h
  · simp at h
theorem boxK_eq {row : Bool} {c d : List (SV m)} {k : List (SV m) → Option β} {y : β} (h : boxK row c d k = some y) : k d = some y := by
  cases row
  · exact likesK_eq c d k y h
  · exact h
theorem boxesK_eq : ∀ (ws : List Bool) (cs l : List (List (SV m))) (k : List (List (SV m)) → Option β) (y : β), boxesK ws cs l k = some y → k l = some y
  | [], _, l, k, y, h => lastB_eq (by simpa only [boxesK] using h)
  | w :: ws, [], l, k, y, h => lastB_eq (by simpa only [boxesK] using h)
  | w :: ws, c :: cs, l, k, y, h => by
    simp only [boxesK] at h
    unfold headB at h
    split at h
    · rename_i v r
      have h2 := boxK_eq h
      exact boxesK_eq ws cs r (fun ds => k (v :: ds)) y h2
    · simp at h
theorem atSV_eq {cs : List (SV m)} {p : Nat} {k : (SV m) → Option β} {y : β} (h : atSV cs p k = some y) : ∃ c, cs[p]? = some c ∧ k c = some y := by
  unfold atSV at h; split at h
  · exact ⟨_, by assumption, h⟩
  · simp at h
theorem dropK_eq {t : TypeId} {c : (SV m)} {k : (SV m) → Option β} {y : β} (h : dropK P t c k = some y) : k c.drop = some y := by
  unfold dropK at h
  split at h
  · exact cast1K_eq h
  · exact h
end

/-! ### What hangs on numbers, as a guard -/
def intG (op : BinOp) (k : IntKind) (a b : Int) : Option (Bool × (Leaf m)) :=
  match op with
  | .quo => some (!(b == 0), .int k (k.wrap (a.tdiv b)))
  | .rem => some (!(b == 0), .int k (a.tmod b))
  | .shl => some (decide (0 ≤ b), .int k (k.wrap (a * 2 ^ min b.toNat k.bits)))
  | .shr => some (decide (0 ≤ b), .int k (a.fdiv (2 ^ min b.toNat k.bits)))
  | op => (intOp op k a b).map fun l => (true, l)
def strG (op : BinOp) (x y : ByteArray) : Option (Bool × (Leaf m)) :=
  match op with
  | .add => some (decide (x.size + y.size ≤ 140737488355328), .str (x ++ y))
  | op => (strOp op x y).map fun l => (true, l)
def binG (P : Program) (op : BinOp) (t : TypeId) (x y : (SV m)) : Option (Bool × (SV m)) :=
  match x.drop, y.drop with
  | .leaf (.int k a), .leaf (.int k' b) =>
    if isShift op = true then (intG op k a b).map fun p => (p.1, .leaf p.2)
    else if k = k' then (intG op k a b).map fun p => (p.1, .leaf p.2) else none
  | .leaf (.str a), .leaf (.str b) => (strG op a b).map fun p => (p.1, .leaf p.2)
  | _, _ => (binV P op t x y).map fun v => (true, v)
theorem intG_V {op : BinOp} {k : IntKind} {a b : Int} {p : Bool × (Leaf m)} (h : intG op k a b = some p) (hp : p.1 = true) : intOp op k a b = some p.2 := by
  cases op <;> simp only [intG] at h <;> try (rw [Option.map_eq_some_iff] at h; obtain ⟨l, hl, rfl⟩ := h; exact hl)
  all_goals (simp only [Option.some.injEq] at h; subst h; simp at hp)
  · simp [intOp, hp]
  · simp [intOp, hp]
  · simp only [intOp]; rw [if_neg (by omega)]
  · simp only [intOp]; rw [if_neg (by omega)]
theorem strG_V {op : BinOp} {a b : ByteArray} {p : Bool × (Leaf m)} (h : strG op a b = some p) (hp : p.1 = true) : strOp op a b = some p.2 := by
  cases op <;> simp only [strG] at h <;> try (rw [Option.map_eq_some_iff] at h; obtain ⟨l, hl, rfl⟩ := h; exact hl)
  simp only [Option.some.injEq] at h; subst h; simp at hp
  simp [strOp, hp]
theorem binG_V {P : Program} {op : BinOp} {t : TypeId} {x y : (SV m)} {p : Bool × (SV m)} (h : binG P op t x y = some p) (hp : p.1 = true) : binV P op t x y = some p.2 := by
  unfold binG at h
  split at h
  · rename_i k a k' b ex ey
    unfold binV
    rw [ex, ey]
    simp only
    split at h
    · rename_i hs
      rw [if_pos hs]
      rw [Option.map_eq_some_iff] at h ⊢
      obtain ⟨q, hq, rfl⟩ := h
      exact ⟨q.2, intG_V hq hp, rfl⟩
    · rename_i hs
      rw [if_neg hs]
      split at h
      · rename_i hk
        rw [if_pos hk]
        rw [Option.map_eq_some_iff] at h ⊢
        obtain ⟨q, hq, rfl⟩ := h
        exact ⟨q.2, intG_V hq hp, rfl⟩
      · simp at h
  · rename_i a b ex ey
    unfold binV
    rw [ex, ey]
    simp only
    rw [Option.map_eq_some_iff] at h ⊢
    obtain ⟨q, hq, rfl⟩ := h
    exact ⟨q.2, strG_V hq hp, rfl⟩
  · rw [Option.map_eq_some_iff] at h
    obtain ⟨v, hv, rfl⟩ := h
    exact hv

def natG : (SV m) → Option (Bool × Nat)
  | .leaf (.int _ n) => some (decide (0 ≤ n), n.toNat)
  | _ => none
def optG (ρ : Operand → (SV m)) : Option Operand → Option (Bool × Option Nat)
  | none => some (true, none)
  | some x => (natG (ρ x)).map fun p => (p.1, some p.2)
theorem optG_V {ρ : Operand → (SV m)} {x : Option Operand} {p : Bool × Option Nat} (h : optG ρ x = some p) (hp : p.1 = true) : optNat ρ x = some p.2 := by
  cases x with
  | none => simp [optG] at h; subst h; rfl
  | some x =>
    simp only [optG, Option.map_eq_some_iff] at h
    obtain ⟨q, hq, rfl⟩ := h
    simp only [optNat]
    unfold natG at hq
    split at hq
    · rename_i k n hx
      simp only [Option.some.injEq] at hq
      subst hq
      have : 0 ≤ n := of_decide_eq_true hp
      simp [natOf, hx, this]
    · simp at hq
def sliceG (P : Program) (t : TypeId) (x : (SV m)) (lo hi : Option Nat) : Option (Bool × (SV m)) :=
  match P.underlying t, x.drop with
  | some .string, .leaf (.str b) => some (decide (lo.getD 0 ≤ hi.getD b.size) && decide (hi.getD b.size ≤ b.size), .leaf (.str (b.extract (lo.getD 0) (hi.getD b.size))))
  | some (.slice _), .leaf (.sl c es) =>
    (elemT P t).bind fun e => (sizeT P e).bind fun z =>
      some (decide (lo.getD 0 ≤ hi.getD es.length) && decide (hi.getD es.length ≤ es.length) && sized z es, .leaf (.sl c ((es.take (hi.getD es.length)).drop (lo.getD 0))))
  | _, _ => none
theorem sliceG_V {P : Program} {t : TypeId} {x : (SV m)} {lo hi : Option Nat} {p : Bool × (SV m)} (h : sliceG P t x lo hi = some p) (hp : p.1 = true) : sliceV P t x lo hi = some p.2 := by
  unfold sliceG at h
  split at h
  · rename_i b hu ex
    simp only [Option.some.injEq] at h; subst h
    simp only [Bool.and_eq_true, decide_eq_true_eq] at hp
    unfold sliceV
    rw [hu, ex]
    simp only
    rw [if_pos hp]
  · rename_i e c es hu ex
    rw [Option.bind_eq_some_iff] at h
    obtain ⟨e', he, h⟩ := h
    rw [Option.bind_eq_some_iff] at h
    obtain ⟨z, hz, h⟩ := h
    simp only [Option.some.injEq] at h; subst h
    simp only [Bool.and_eq_true, decide_eq_true_eq] at hp
    unfold sliceV
    rw [hu, ex]
    simp only [he, hz, Option.bind_some]
    rw [if_pos hp.1, hp.2]
    rfl
  · simp at h
def indexAddrG (P : Program) (t : TypeId) (x i : (SV m)) : Option (Bool × (SV m)) :=
  match elemT P t, x.drop, i with
  | some e, .bsl b z lo k, .leaf (.int _ n) => (sizeT P e).bind fun z' => if z' = z ∧ 0 < z then some (decide (0 ≤ n) && decide (n < (k : Int)), .ptr b ((lo + n.toNat) * z)) else none
  | some e, .leaf (.sl c es), .leaf (.int _ n) => (sizeT P e).bind fun z =>
    some (decide (0 ≤ n) && decide (n < (es.length : Int)) && sized z es, .eptr c (es.getD n.toNat []) 0)
  | _, _, _ => none
theorem indexAddrG_V {P : Program} {t : TypeId} {x i : (SV m)} {p : Bool × (SV m)} (h : indexAddrG P t x i = some p) (hp : p.1 = true) : indexAddrV P t x i = some p.2 := by
  unfold indexAddrG at h
  split at h
  · rename_i e b z lo q kk n he ex
    rw [Option.bind_eq_some_iff] at h
    obtain ⟨z', hz, h⟩ := h
    split at h
    · rename_i hzz
      simp only [Option.some.injEq] at h; subst h
      simp only [Bool.and_eq_true, decide_eq_true_eq] at hp
      unfold indexAddrV
      rw [he, ex]
      simp only [hz, Option.bind_some]
      rw [if_pos hp.1, if_pos hp.2, if_pos hzz]
    · simp at h
  · rename_i e c es k n he ex
    rw [Option.bind_eq_some_iff] at h
    obtain ⟨z, hz, h⟩ := h
    simp only [Option.some.injEq] at h; subst h
    simp only [Bool.and_eq_true, decide_eq_true_eq] at hp
    unfold indexAddrV
    rw [he, ex]
    simp only [hz, Option.bind_some]
    rw [if_pos hp.1.1, if_pos hp.1.2, hp.2]
    rfl
  · simp at h
def makeG (P : Program) (t : TypeId) (l c : (SV m)) : Option (Bool × ((Nat × Nat) × List (SV m))) :=
  match l, c with
  | .leaf (.int _ a), .leaf (.int _ b) =>
    (elemT P t).bind fun e => (P.info? e).bind fun i => (zeroLeaves P e).bind fun ze => guarded (decide (0 < i.size) && ze.length == i.size) <|
      some (decide (0 ≤ a) && a == b && decide (a.toNat * i.bytes ≤ maxBytes) && decide (a.toNat ≤ maxBytes), ((i.size, a.toNat), ((List.replicate a.toNat ze).flatten.map .leaf)))
  | _, _ => none
theorem makeG_V {P : Program} {t : TypeId} {x y : (SV m)} {p : Bool × ((Nat × Nat) × List (SV m))} (h : makeG P t x y = some p) (hp : p.1 = true) : makeV P t x y = some p.2 := by
  unfold makeG at h
  split at h
  · rename_i k1 a k2 b
    rw [Option.bind_eq_some_iff] at h
    obtain ⟨e, he, h⟩ := h
    rw [Option.bind_eq_some_iff] at h
    obtain ⟨i, hi, h⟩ := h
    rw [Option.bind_eq_some_iff] at h
    obtain ⟨ze, hze, h⟩ := h
    obtain ⟨hg, h⟩ := guarded_eq h
    simp only [Option.some.injEq] at h; subst h
    simp only [Bool.and_eq_true, decide_eq_true_eq, beq_iff_eq] at hp hg
    unfold makeV
    simp only [he, hi, hze, Option.bind_some]
    rw [if_pos ⟨⟨hp.1.1.1, hp.1.1.2⟩, ⟨hg.1, hp.1.2, hp.2⟩, hg.2⟩]
  · simp at h
def indexG (P : Program) (t : TypeId) (x i : (SV m)) : Option (Bool × (SV m)) :=
  match P.underlying t, x, i with
  | some .string, .leaf (.str s), .leaf (.int _ n) => some (decide (0 ≤ n) && decide (n < (s.size : Int)), .leaf (.int .u8 (s.data.toList.getD n.toNat 0).toNat))
  | _, _, _ => none
theorem indexG_V {P : Program} {t : TypeId} {x i : (SV m)} {p : Bool × (SV m)} (h : indexG P t x i = some p) (hp : p.1 = true) : indexV P t x i = some p.2 := by
  unfold indexG at h
  split at h
  · rename_i s k n hu
    simp only [Option.some.injEq] at h; subst h
    simp only [Bool.and_eq_true, decide_eq_true_eq] at hp
    unfold indexV
    rw [hu]
    simp only
    rw [if_pos hp.1, if_pos hp.2]
  · simp at h
def appendG (P : Program) (argTypes : Array TypeId) (x y : (SV m)) : Option (Bool × (SV m)) :=
  match argTypes.toList, x with
  | [t, u], .own eo es =>
    (elemT P t).bind fun e => (P.info? e).bind fun i => guarded (eo.getD e == e && decide (0 < i.size) && decide (0 < i.bytes) && zeroSized P e) <|
      match P.underlying u, y.drop with
      | some (.slice _), .leaf (.sl _ fs) => if t = u then some (decide ((es.length + fs.length) * i.bytes ≤ maxBytes) && sized i.size fs, .own (some e) (es ++ fs)) else none
      | some .string, .leaf (.str s) => guarded (zeroByte P e) (some (decide (es.length + s.size ≤ maxBytes), .own (some e) (es ++ s.data.toList.map fun b => [.int .u8 b.toNat])))
      | _, _ => none
  | _, _ => none
theorem appendG_V {P : Program} {ts : Array TypeId} {x y : (SV m)} {p : Bool × (SV m)} (h : appendG P ts x y = some p) (hp : p.1 = true) : appendV P ts x y = some p.2 := by
  unfold appendG at h
  split at h
  · rename_i t u eo es hts
    rw [Option.bind_eq_some_iff] at h
    obtain ⟨e, he, h⟩ := h
    rw [Option.bind_eq_some_iff] at h
    obtain ⟨i, hi, h⟩ := h
    obtain ⟨hg, h⟩ := guarded_eq h
    unfold appendV
    rw [hts]
    simp only [he, hi, Option.bind_some, hg, guarded]
    split at h
    · rename_i e2 c fs hu hy
      rw [hu, hy]
      simp only
      split at h
      · rename_i htu
        simp only [Option.some.injEq] at h; subst h
        simp only [Bool.and_eq_true, decide_eq_true_eq] at hp
        rw [if_pos ⟨htu, hp.1⟩, hp.2]
      · simp at h
    · rename_i s hu hy
      rw [hu, hy]
      simp only
      obtain ⟨hz, h⟩ := guarded_eq h
      simp only [Option.some.injEq] at h; subst h
      have hp' := of_decide_eq_true hp
      rw [if_pos hp', hz]
    · simp at h
  · simp at h
def isByte : List (Leaf m) → Bool | [.int .u8 _] => true | _ => false
def byteOf : List (Leaf m) → UInt8 | [.int .u8 n] => UInt8.ofNat n.toNat | _ => 0
def convG (P : Program) (src dst : TypeId) (x : (SV m)) : Option (Bool × (SV m)) :=
  match P.underlying src, P.underlying dst, x.drop with
  | some (.slice e), some .string, .leaf (.sl _ es) =>
    match P.underlying e with
    | some (.int .u8) => some (es.all isByte, .leaf (.str ⟨(es.map byteOf).toArray⟩))
    | _ => none
  | _, _, _ => (convV P src dst x).map fun v => (true, v)
theorem bytes_all : ∀ (es : List (List (Leaf m))), es.all isByte = true → bytesOfLeaves es = some (es.map byteOf)
  | [], _ => rfl
  | e :: es, h => by
    simp only [List.all_cons, Bool.and_eq_true] at h
    have ih := bytes_all es h.2
    have h1 := h.1
    unfold isByte at h1
    split at h1
    · simp [bytesOfLeaves, ih, byteOf]
    · simp at h1
theorem convG_V {P : Program} {src dst : TypeId} {x : (SV m)} {p : Bool × (SV m)} (h : convG P src dst x = some p) (hp : p.1 = true) : convV P src dst x = some p.2 := by
  unfold convG at h
  split at h
  · rename_i e c es hs hd ex
    unfold convV
    rw [hs, hd, ex]
    simp only
    split at h
    · rename_i he
      simp only [Option.some.injEq] at h; subst h
      rw [he]
      simp [bytes_all es hp]
    · simp at h
  · rw [Option.map_eq_some_iff] at h
    obtain ⟨v, hv, rfl⟩ := h
    exact hv
end Go.Vs
