/- What the program's functions compute, read off their text by the shadow runner (VsFast, VsFast2, VsSub, VsLoop, VsAt, VsNm, ONm, OHs, VsTy, VsRow, VsRe, VsLift, VsPhase); no condition. -/
import Derived.Test.YtdbomanmhhhndaaRows
import Derived.KernelRfl
import Derived.ChangeArms
import Derived.DataReads
import Derived.Below
import Derived.Test.YtdbomanmhhhndaaVB2
section
set_option linter.unusedVariables false
set_option linter.unusedSimpArgs false
namespace Go.Vs
variable {m : Bool}
section
variable {β : Type}
def intK (k0 : IntKind) (l : (Leaf m)) (k : Int → Option β) : Option β := match l with | .int k1 n => if k1 = k0 then k n else none | _ => none
def boolK (l : (Leaf m)) (k : Bool → Option β) : Option β := match l with | .bool b => k b | _ => none
def strK (l : (Leaf m)) (k : ByteArray → Option β) : Option β := match l with | .str s => k s | _ => none
def slK (l : (Leaf m)) (k : Fl m → List (List (Leaf m)) → Option β) : Option β := match l with | .sl c es => k c es | _ => none
def leafK (P : Program) (t : TypeId) (l : (Leaf m)) (k : (Leaf m) → Option β) : Option β :=
  match P.underlying t with
  | some (.int k0) => intK k0 l fun n => k (.int k0 n)
  | some .bool => boolK l fun b => k (.bool b)
  | some .string => strK l fun s => k (.str s)
  | some (.slice _) => slK l fun c es => k (.sl c es)
  | _ => none
def atK (e : List (Leaf m)) (p : Nat) (k : (Leaf m) → Option β) : Option β := match e[p]? with | some l => k l | none => none
def cellsAtK (P : Program) : List TypeId → List (Leaf m) → Nat → (List (Leaf m) → Option β) → Option β
  | [], _, _, k => k []
  | t :: ts, e, p, k => atK e p fun l => leafK P t l fun l' => cellsAtK P ts e (p + 1) fun ls => k (l' :: ls)
def flatTs (P : Program) : Nat → TypeId → Option (List TypeId)
  | 0, _ => none
  | n + 1, t => match P.underlying t with
    | some (.struct fs) => fs.toList.foldr (fun f r => (flatTs P n f.type).bind fun a => r.map (a ++ ·)) (some [])
    | some (.array _ _) | none => none
    | some _ => some [t]
def bindE (e : List (Leaf m)) (k : List (Leaf m) → Option β) : Option β := k e
def partK (P : Program) (t : TypeId) (e : List (Leaf m)) (p : Nat) (k : (SV m) → Option β) : Option β :=
  match isAggT P t with
  | true => (flatTs P 8 t).bind fun ts => (sizeT P t).bind fun n => if ts.length = n ∧ 0 < n then bindE e fun e => cellsAtK P ts e p fun ls => k (.agg ls) else none
  | false => atK e p fun l => leafK P t l fun l' => k (.leaf l')
def svLeafK (v : (SV m)) (k : (Leaf m) → Option β) : Option β := match v with | .leaf l => k l | _ => none
def svSlK (v : (SV m)) (k : Fl m → List (List (Leaf m)) → Option β) : Option β := match v with | .leaf (.sl c es) => k c es | _ => none
def svOwnK (e : TypeId) (v : (SV m)) (k : List (List (Leaf m)) → Option β) : Option β := match v with | .own (some e') es => if e' = e then k es else none | _ => none
def svRawK (e : TypeId) (v : (SV m)) (k : List (List (Leaf m)) → Option β) : Option β := match v with | .raw (some e') es => if e' = e then k es else none | _ => none
def svBslK (i z : Nat) (v : (SV m)) (k : Nat → Nat → Option β) : Option β := match v with | .bsl b z' lo n => if b = i ∧ z' = z then k lo n else none | _ => none
def rowK (P : Program) (t : TypeId) (cs : List (SV m)) (p n : Nat) (k : (SV m) → Option β) : Option β :=
  (asLeaves ((cs.drop p).take n)).bind fun e => partK P t e 0 k
def svAggK (v : (SV m)) (k : List (Leaf m) → Option β) : Option β := match v with | .agg cs => k cs | _ => none
def svNilK (v : (SV m)) (k : Option β) : Option β := match v with | .nilface => k | _ => none
def svTupK (v : (SV m)) (k : List (SV m) → Option β) : Option β := match v with | .tup vs => k vs | _ => none
def cast1K (P : Program) (own : Bool) (t : TypeId) (v : (SV m)) (k : (SV m) → Option β) : Option β :=
  match P.underlying t with
  | some (.slice e) => (match own with
    | true => svOwnK e v fun es => k (.own (some e) es)
    | false => svSlK v fun c es => k (.leaf (.sl c es)))
  | some (.struct _) => svAggK v fun cs => (flatTs P 8 t).bind fun ts => guarded (cs.length == ts.length) (cellsAtK P ts cs 0 fun ls => k (.agg ls))
  | some (.interface _) => svNilK v (k .nilface)
  | some _ => svLeafK v fun l => leafK P t l fun l' => k (.leaf l')
  | none => none
def headK (l : List (SV m)) (k : (SV m) → List (SV m) → Option β) : Option β := match l with | v :: r => k v r | [] => none
def lastK (l : List (SV m)) (k : Option β) : Option β := match l with | [] => k | _ => none
def castsK (P : Program) : List TypeId → List (SV m) → (List (SV m) → Option β) → Option β
  | [], l, k => lastK l (k [])
  | t :: ts, l, k => headK l fun v r => cast1K P false t v fun v' => castsK P ts r fun vs => k (v' :: vs)
def castK (P : Program) (own : Bool) (t : TypeId) (v : (SV m)) (k : (SV m) → Option β) : Option β :=
  match P.underlying t with
  | some (.tuple ts) => svTupK v fun vs => castsK P ts.toList vs fun vs' => k (.tup vs')
  | _ => cast1K P own t v k
def likeK (c d : (SV m)) (k : (SV m) → Option β) : Option β :=
  match c with
  | .leaf (.int k0 _) => svLeafK d fun l => intK k0 l fun n => k (.leaf (.int k0 n))
  | .leaf (.bool _) => svLeafK d fun l => boolK l fun b => k (.leaf (.bool b))
  | .leaf (.str _) => svLeafK d fun l => strK l fun s => k (.leaf (.str s))
  | .leaf (.sl _ _) => svSlK d fun c es => k (.leaf (.sl c es))
  | .own (some e) _ => svOwnK e d fun es => k (.own (some e) es)
  | _ => none
def likesK : List (SV m) → List (SV m) → (List (SV m) → Option β) → Option β
  | [], l, k => lastK l (k [])
  | c :: cs, l, k => headK l fun d r => likeK c d fun d' => likesK cs r fun ds => k (d' :: ds)
def atSV (cs : List (SV m)) (p : Nat) (k : (SV m) → Option β) : Option β := match cs[p]? with | some c => k c | none => none
def isPlainT (P : Program) (t : TypeId) : Bool := match P.underlying t with | some (.int _) | some .bool | some .string | some (.slice _) => true | _ => false
def dropK (P : Program) (t : TypeId) (c : (SV m)) (k : (SV m) → Option β) : Option β := match isPlainT P t with | true => cast1K P false t c.drop k | false => k c.drop
def headB (l : List (List (SV m))) (k : List (SV m) → List (List (SV m)) → Option β) : Option β := match l with | v :: r => k v r | [] => none
def lastB (l : List (List (SV m))) (k : Option β) : Option β := match l with | [] => k | _ => none
def boxK (row : Bool) (c d : List (SV m)) (k : List (SV m) → Option β) : Option β := match row with | true => k d | false => likesK c d k
def boxesK : List Bool → List (List (SV m)) → List (List (SV m)) → (List (List (SV m)) → Option β) → Option β
  | [], _, l, k => lastB l (k [])
  | w :: ws, [], l, k => lastB l (k [])
  | w :: ws, c :: cs, l, k => headB l fun d r => boxK w c d fun d' => boxesK ws cs r fun ds => k (d' :: ds)
end
section
variable {β : Type} {P : Program}
theorem intK_eq {k0 : IntKind} {l : (Leaf m)} {k : Int → Option β} {y : β} (h : intK k0 l k = some y) : ∃ n, l = .int k0 n ∧ k n = some y := by
  unfold intK at h
  split at h
  · split at h
    · rename_i hk; subst hk; exact ⟨_, rfl, h⟩
    · simp at h
  · simp at h
theorem boolK_eq {l : (Leaf m)} {k : Bool → Option β} {y : β} (h : boolK l k = some y) : ∃ n, l = .bool n ∧ k n = some y := by
  unfold boolK at h; split at h
  · exact ⟨_, rfl, h⟩
  · simp at h
theorem strK_eq {l : (Leaf m)} {k : ByteArray → Option β} {y : β} (h : strK l k = some y) : ∃ n, l = .str n ∧ k n = some y := by
  unfold strK at h; split at h
  · exact ⟨_, rfl, h⟩
  · simp at h
theorem slK_eq {l : (Leaf m)} {k : Fl m → List (List (Leaf m)) → Option β} {y : β} (h : slK l k = some y) : ∃ c es, l = .sl c es ∧ k c es = some y := by
  unfold slK at h; split at h
  · exact ⟨_, _, rfl, h⟩
  · simp at h
theorem leafK_eq {t : TypeId} {l : (Leaf m)} {k : (Leaf m) → Option β} {y : β} (h : leafK P t l k = some y) : k l = some y := by
  unfold leafK at h
  split at h
  · obtain ⟨n, rfl, h'⟩ := intK_eq h; exact h'
  · obtain ⟨n, rfl, h'⟩ := boolK_eq h; exact h'
  · obtain ⟨n, rfl, h'⟩ := strK_eq h; exact h'
  · obtain ⟨c, es, rfl, h'⟩ := slK_eq h; exact h'
  · simp at h
theorem atK_eq {e : List (Leaf m)} {p : Nat} {k : (Leaf m) → Option β} {y : β} (h : atK e p k = some y) : ∃ l, e[p]? = some l ∧ k l = some y := by
  unfold atK at h; split at h
  · exact ⟨_, by assumption, h⟩
  · simp at h
theorem cellsAtK_eq : ∀ (ts : List TypeId) (e : List (Leaf m)) (p : Nat) (k : List (Leaf m) → Option β) (y : β), cellsAtK P ts e p k = some y → (e.drop p).take ts.length = (e.drop p).take ts.length ∧ (ts.length = 0 ∨ p + ts.length ≤ e.length) ∧ k ((e.drop p).take ts.length) = some y
  | [], e, p, k, y, h => ⟨rfl, .inl rfl, by simpa [cellsAtK] using h⟩
  | t :: ts, e, p, k, y, h => by
    simp only [cellsAtK] at h
    obtain ⟨l, hl, h⟩ := atK_eq h
    have h := leafK_eq h
    obtain ⟨_, h2, h3⟩ := cellsAtK_eq ts e (p + 1) _ y h
    have hlt := (List.getElem?_eq_some_iff.1 hl).1
    have hd : e.drop p = l :: e.drop (p + 1) := by
      rw [List.drop_eq_getElem_cons hlt]
      congr 1
      exact (List.getElem?_eq_some_iff.1 hl).2
    refine ⟨rfl, .inr ?_, ?_⟩
    · simp only [List.length_cons]
      rcases h2 with h2 | h2 <;> omega
    · rw [hd]
      simpa using h3
theorem partK_eq {t : TypeId} {e : List (Leaf m)} {p : Nat} {k : (SV m) → Option β} {y : β} (h : partK P t e p k = some y) : ∃ v, partL P t e p = some v ∧ k v = some y := by
  unfold partK at h
  unfold partL
  split at h
  · rename_i ha
    rw [if_pos ha]
    rw [Option.bind_eq_some_iff] at h
    obtain ⟨ts, hts, h⟩ := h
    rw [Option.bind_eq_some_iff] at h
    obtain ⟨n, hn, h⟩ := h
    split at h
    · rename_i hl
      obtain ⟨_, h2, h3⟩ := cellsAtK_eq ts e p _ y h
      rw [hn]
      rw [hl.1] at h2 h3
      have hle : p + n ≤ e.length := by rcases h2 with h2 | h2 <;> omega
      exact ⟨.agg ((e.drop p).take n), by simp [hle], h3⟩
    · simp at h
  · rename_i ha
    rw [if_neg (by simp [ha])]
    obtain ⟨l, hl, h⟩ := atK_eq h
    have h := leafK_eq h
    exact ⟨.leaf l, by rw [hl]; rfl, h⟩
theorem svLeafK_eq {v : (SV m)} {k : (Leaf m) → Option β} {y : β} (h : svLeafK v k = some y) : ∃ l, v = .leaf l ∧ k l = some y := by
  unfold svLeafK at h; split at h
  · exact ⟨_, rfl, h⟩
  · simp at h
theorem svSlK_eq {v : (SV m)} {k : Fl m → List (List (Leaf m)) → Option β} {y : β} (h : svSlK v k = some y) : ∃ c es, v = .leaf (.sl c es) ∧ k c es = some y := by
  unfold svSlK at h; split at h
  · exact ⟨_, _, rfl, h⟩
  · simp at h
theorem svOwnK_eq {e : TypeId} {v : (SV m)} {k : List (List (Leaf m)) → Option β} {y : β} (h : svOwnK e v k = some y) : ∃ es, v = .own (some e) es ∧ k es = some y := by
  unfold svOwnK at h; split at h
  · split at h
    · rename_i he; subst he; exact ⟨_, rfl, h⟩
    · simp at h
  · simp at h
theorem svAggK_eq {v : (SV m)} {k : List (Leaf m) → Option β} {y : β} (h : svAggK v k = some y) : ∃ cs, v = .agg cs ∧ k cs = some y := by
  unfold svAggK at h; split at h
  · exact ⟨_, rfl, h⟩
  · simp at h
theorem svNilK_eq {v : (SV m)} {k : Option β} {y : β} (h : svNilK v k = some y) : v = .nilface ∧ k = some y := by
  unfold svNilK at h; split at h
  · exact ⟨rfl, h⟩
  · simp at h
theorem svTupK_eq {v : (SV m)} {k : List (SV m) → Option β} {y : β} (h : svTupK v k = some y) : ∃ vs, v = .tup vs ∧ k vs = some y := by
  unfold svTupK at h; split at h
  · exact ⟨_, rfl, h⟩
  · simp at h
theorem headK_eq {l : List (SV m)} {k : (SV m) → List (SV m) → Option β} {y : β} (h : headK l k = some y) : ∃ v r, l = v :: r ∧ k v r = some y := by
  unfold headK at h; split at h
  · exact ⟨_, _, rfl, h⟩
  · simp at h
theorem lastK_eq {l : List (SV m)} {k : Option β} {y : β} (h : lastK l k = some y) : l = [] ∧ k = some y := by
  unfold lastK at h; split at h
  · exact ⟨rfl, h⟩
  · simp at h
theorem cast1K_eq {own : Bool} {t : TypeId} {v : (SV m)} {k : (SV m) → Option β} {y : β} (h : cast1K P own t v k = some y) : k v = some y := by
  unfold cast1K at h
  split at h
  · split at h
    · obtain ⟨es, rfl, h'⟩ := svOwnK_eq h; exact h'
    · obtain ⟨c, es, rfl, h'⟩ := svSlK_eq h; exact h'
  · obtain ⟨cs, rfl, h'⟩ := svAggK_eq h
    rw [Option.bind_eq_some_iff] at h'
    obtain ⟨ts, hts, h2⟩ := h'
    obtain ⟨hl, h3⟩ := guarded_eq h2
    obtain ⟨_, _, h4⟩ := cellsAtK_eq ts cs 0 _ y h3
    have hl' : cs.length = ts.length := by simpa using hl
    rw [← hl', List.drop_zero, List.take_length] at h4
    exact h4
  · obtain ⟨rfl, h'⟩ := svNilK_eq h; exact h'
  · obtain ⟨l, rfl, h'⟩ := svLeafK_eq h
    exact leafK_eq h'
  · simp at h
theorem castsK_eq : ∀ (ts : List TypeId) (l : List (SV m)) (k : List (SV m) → Option β) (y : β), castsK P ts l k = some y → k l = some y
  | [], l, k, y, h => by
    simp only [castsK] at h
    obtain ⟨rfl, h'⟩ := lastK_eq h
    exact h'
  | t :: ts, l, k, y, h => by
    simp only [castsK] at h
    obtain ⟨v, r, rfl, h'⟩ := headK_eq h
    exact castsK_eq ts r _ y (cast1K_eq h')
theorem castK_eq {own : Bool} {t : TypeId} {v : (SV m)} {k : (SV m) → Option β} {y : β} (h : castK P own t v k = some y) : k v = some y := by
  unfold castK at h
  split at h
  · obtain ⟨vs, rfl, h'⟩ := svTupK_eq h
    exact castsK_eq _ _ _ y h'
  · exact cast1K_eq h
theorem likeK_eq {c d : (SV m)} {k : (SV m) → Option β} {y : β} (h : likeK c d k = some y) : k d = some y := by
  unfold likeK at h
  split at h
  · obtain ⟨l, rfl, h1⟩ := svLeafK_eq h; obtain ⟨n, rfl, h2⟩ := intK_eq h1; exact h2
  · obtain ⟨l, rfl, h1⟩ := svLeafK_eq h; obtain ⟨n, rfl, h2⟩ := boolK_eq h1; exact h2
  · obtain ⟨l, rfl, h1⟩ := svLeafK_eq h; obtain ⟨n, rfl, h2⟩ := strK_eq h1; exact h2
  · obtain ⟨c, es, rfl, h1⟩ := svSlK_eq h; exact h1
  · obtain ⟨es, rfl, h1⟩ := svOwnK_eq h; exact h1
  · simp at h
theorem likesK_eq : ∀ (cs l : List (SV m)) (k : List (SV m) → Option β) (y : β), likesK cs l k = some y → k l = some y
  | [], l, k, y, h => by
    simp only [likesK] at h
    obtain ⟨rfl, h'⟩ := lastK_eq h
    exact h'
  | c :: cs, l, k, y, h => by
    simp only [likesK] at h
    obtain ⟨v, r, rfl, h'⟩ := headK_eq h
    exact likesK_eq cs r _ y (likeK_eq h')
theorem lastB_eq {l : List (List (SV m))} {k : List (List (SV m)) → Option β} {y : β} (h : lastB l (k []) = some y) : k l = some y := by
  unfold lastB at h
  split at h
  · exact h
  · simp at h
theorem boxK_eq {row : Bool} {c d : List (SV m)} {k : List (SV m) → Option β} {y : β} (h : boxK row c d k = some y) : k d = some y := by
  cases row
  · exact likesK_eq c d k y h
  · exact h
theorem boxesK_eq : ∀ (ws : List Bool) (cs l : List (List (SV m))) (k : List (List (SV m)) → Option β) (y : β), boxesK ws cs l k = some y → k l = some y
  | [], _, l, k, y, h => lastB_eq (by simpa only [boxesK] using h)
  | w :: ws, [], l, k, y, h => lastB_eq (by simpa only [boxesK] using h)
  | w :: ws, c :: cs, l, k, y, h => by
    simp only [boxesK] at h
    unfold headB at h
    split at h
    · rename_i v r
      have h2 := boxK_eq h
      exact boxesK_eq ws cs r (fun ds => k (v :: ds)) y h2
    · simp at h
theorem atSV_eq {cs : List (SV m)} {p : Nat} {k : (SV m) → Option β} {y : β} (h : atSV cs p k = some y) : ∃ c, cs[p]? = some c ∧ k c = some y := by
  unfold atSV at h; split at h
  · exact ⟨_, by assumption, h⟩
  · simp at h
theorem dropK_eq {t : TypeId} {c : (SV m)} {k : (SV m) → Option β} {y : β} (h : dropK P t c k = some y) : k c.drop = some y := by
  unfold dropK at h
  split at h
  · exact cast1K_eq h
  · exact h
end
def intG (op : BinOp) (k : IntKind) (a b : Int) : Option (Bool × (Leaf m)) :=
  match op with
  | .quo => some (!(b == 0), .int k (k.wrap (a.tdiv b)))
  | .rem => some (!(b == 0), .int k (a.tmod b))
  | .shl => some (decide (0 ≤ b), .int k (k.wrap (a * 2 ^ min b.toNat k.bits)))
  | .shr => some (decide (0 ≤ b), .int k (a.fdiv (2 ^ min b.toNat k.bits)))
  | op => (intOp op k a b).map fun l => (true, l)
def strG (op : BinOp) (x y : ByteArray) : Option (Bool × (Leaf m)) :=
  match op with
  | .add => some (decide (x.size + y.size ≤ 140737488355328), .str (x ++ y))
  | op => (strOp op x y).map fun l => (true, l)
def binG (P : Program) (op : BinOp) (t : TypeId) (x y : (SV m)) : Option (Bool × (SV m)) :=
  match x.drop, y.drop with
  | .leaf (.int k a), .leaf (.int k' b) =>
    if isShift op = true then (intG op k a b).map fun p => (p.1, .leaf p.2)
    else if k = k' then (intG op k a b).map fun p => (p.1, .leaf p.2) else none
  | .leaf (.str a), .leaf (.str b) => (strG op a b).map fun p => (p.1, .leaf p.2)
  | _, _ => (binV P op t x y).map fun v => (true, v)
theorem intG_V {op : BinOp} {k : IntKind} {a b : Int} {p : Bool × (Leaf m)} (h : intG op k a b = some p) (hp : p.1 = true) : intOp op k a b = some p.2 := by
  cases op <;> simp only [intG] at h <;> try (rw [Option.map_eq_some_iff] at h; obtain ⟨l, hl, rfl⟩ := h; exact hl)
  all_goals (simp only [Option.some.injEq] at h; subst h; simp at hp)
  · simp [intOp, hp]
  · simp [intOp, hp]
  · simp only [intOp]; rw [if_neg (by omega)]
  · simp only [intOp]; rw [if_neg (by omega)]
theorem strG_V {op : BinOp} {a b : ByteArray} {p : Bool × (Leaf m)} (h : strG op a b = some p) (hp : p.1 = true) : strOp op a b = some p.2 := by
  cases op <;> simp only [strG] at h <;> try (rw [Option.map_eq_some_iff] at h; obtain ⟨l, hl, rfl⟩ := h; exact hl)
  simp only [Option.some.injEq] at h; subst h; simp at hp
  simp [strOp, hp]
theorem binG_V {P : Program} {op : BinOp} {t : TypeId} {x y : (SV m)} {p : Bool × (SV m)} (h : binG P op t x y = some p) (hp : p.1 = true) : binV P op t x y = some p.2 := by
  unfold binG at h
  split at h
  · rename_i k a k' b ex ey
    unfold binV
    rw [ex, ey]
    simp only
    split at h
    · rename_i hs
      rw [if_pos hs]
      rw [Option.map_eq_some_iff] at h ⊢
      obtain ⟨q, hq, rfl⟩ := h
      exact ⟨q.2, intG_V hq hp, rfl⟩
    · rename_i hs
      rw [if_neg hs]
      split at h
      · rename_i hk
        rw [if_pos hk]
        rw [Option.map_eq_some_iff] at h ⊢
        obtain ⟨q, hq, rfl⟩ := h
        exact ⟨q.2, intG_V hq hp, rfl⟩
      · simp at h
  · rename_i a b ex ey
    unfold binV
    rw [ex, ey]
    simp only
    rw [Option.map_eq_some_iff] at h ⊢
    obtain ⟨q, hq, rfl⟩ := h
    exact ⟨q.2, strG_V hq hp, rfl⟩
  · rw [Option.map_eq_some_iff] at h
    obtain ⟨v, hv, rfl⟩ := h
    exact hv
def natG : (SV m) → Option (Bool × Nat)
  | .leaf (.int _ n) => some (decide (0 ≤ n), n.toNat)
  | _ => none
def optG (ρ : Operand → (SV m)) : Option Operand → Option (Bool × Option Nat)
  | none => some (true, none)
  | some x => (natG (ρ x)).map fun p => (p.1, some p.2)
theorem optG_V {ρ : Operand → (SV m)} {x : Option Operand} {p : Bool × Option Nat} (h : optG ρ x = some p) (hp : p.1 = true) : optNat ρ x = some p.2 := by
  cases x with
  | none => simp [optG] at h; subst h; rfl
  | some x =>
    simp only [optG, Option.map_eq_some_iff] at h
    obtain ⟨q, hq, rfl⟩ := h
    simp only [optNat]
    unfold natG at hq
    split at hq
    · rename_i k n hx
      simp only [Option.some.injEq] at hq
      subst hq
      have : 0 ≤ n := of_decide_eq_true hp
      simp [natOf, hx, this]
    · simp at hq
def sliceG (P : Program) (t : TypeId) (x : (SV m)) (lo hi : Option Nat) : Option (Bool × (SV m)) :=
  match P.underlying t, x.drop with
  | some (.slice _), .bsl b z k n =>
    (elemT P t).bind fun e => (sizeT P e).bind fun z' => if z' = z then some (decide (lo.getD 0 ≤ hi.getD n) && decide (hi.getD n ≤ n), .bsl b z (k + lo.getD 0) (hi.getD n - lo.getD 0)) else none
  | some .string, .leaf (.str b) => some (decide (lo.getD 0 ≤ hi.getD b.size) && decide (hi.getD b.size ≤ b.size), .leaf (.str (b.extract (lo.getD 0) (hi.getD b.size))))
  | some (.slice _), .leaf (.sl c es) =>
    (elemT P t).bind fun e => (sizeT P e).bind fun z =>
      some (decide (lo.getD 0 ≤ hi.getD es.length) && decide (hi.getD es.length ≤ es.length) && sized z es, .leaf (.sl (c.later lo) ((es.take (hi.getD es.length)).drop (lo.getD 0))))
  | _, _ => none
theorem sliceG_V {P : Program} {t : TypeId} {x : (SV m)} {lo hi : Option Nat} {p : Bool × (SV m)} (h : sliceG P t x lo hi = some p) (hp : p.1 = true) : sliceV P t x lo hi = some p.2 := by
  unfold sliceG at h
  split at h
  · rename_i e b z k n hu ex
    rw [Option.bind_eq_some_iff] at h
    obtain ⟨e', he, h⟩ := h
    rw [Option.bind_eq_some_iff] at h
    obtain ⟨z', hz, h⟩ := h
    split at h
    · rename_i hzz
      simp only [Option.some.injEq] at h; subst h
      simp only [Bool.and_eq_true, decide_eq_true_eq] at hp
      unfold sliceV
      rw [hu, ex]
      simp only [he, hz, Option.bind_some]
      rw [if_pos ⟨hp, hzz⟩]
    · simp at h
  · rename_i b hu ex
    simp only [Option.some.injEq] at h; subst h
    simp only [Bool.and_eq_true, decide_eq_true_eq] at hp
    unfold sliceV
    rw [hu, ex]
    simp only
    rw [if_pos hp]
  · rename_i e c es hu ex
    rw [Option.bind_eq_some_iff] at h
    obtain ⟨e', he, h⟩ := h
    rw [Option.bind_eq_some_iff] at h
    obtain ⟨z, hz, h⟩ := h
    simp only [Option.some.injEq] at h; subst h
    simp only [Bool.and_eq_true, decide_eq_true_eq] at hp
    unfold sliceV
    rw [hu, ex]
    simp only [he, hz, Option.bind_some]
    rw [if_pos hp.1, hp.2]
    rfl
  · simp at h
def indexAddrG (P : Program) (t : TypeId) (x i : (SV m)) : Option (Bool × (SV m)) :=
  match elemT P t, x.drop, i with
  | some e, .bsl b z lo k, .leaf (.int _ n) => (sizeT P e).bind fun z' => if z' = z ∧ 0 < z then some (decide (0 ≤ n) && decide (n < (k : Int)), .ptr b ((lo + n.toNat) * z)) else none
  | some e, .leaf (.sl c es), .leaf (.int _ n) => (sizeT P e).bind fun z =>
    some (decide (0 ≤ n) && decide (n < (es.length : Int)) && sized z es, .eptr c (es.getD n.toNat []) 0)
  | _, _, _ => none
theorem indexAddrG_V {P : Program} {t : TypeId} {x i : (SV m)} {p : Bool × (SV m)} (h : indexAddrG P t x i = some p) (hp : p.1 = true) : indexAddrV P t x i = some p.2 := by
  unfold indexAddrG at h
  split at h
  · rename_i e b z lo q kk n he ex
    rw [Option.bind_eq_some_iff] at h
    obtain ⟨z', hz, h⟩ := h
    split at h
    · rename_i hzz
      simp only [Option.some.injEq] at h; subst h
      simp only [Bool.and_eq_true, decide_eq_true_eq] at hp
      unfold indexAddrV
      rw [he, ex]
      simp only [hz, Option.bind_some]
      rw [if_pos hp.1, if_pos hp.2, if_pos hzz]
    · simp at h
  · rename_i e c es k n he ex
    rw [Option.bind_eq_some_iff] at h
    obtain ⟨z, hz, h⟩ := h
    simp only [Option.some.injEq] at h; subst h
    simp only [Bool.and_eq_true, decide_eq_true_eq] at hp
    unfold indexAddrV
    rw [he, ex]
    simp only [hz, Option.bind_some]
    rw [if_pos hp.1.1, if_pos hp.1.2, hp.2]
    rfl
  · simp at h
def makeG (P : Program) (t : TypeId) (l c : (SV m)) : Option (Bool × ((Nat × Nat) × List (SV m))) :=
  match l, c with
  | .leaf (.int _ a), .leaf (.int _ b) =>
    (elemT P t).bind fun e => (P.info? e).bind fun i => (zeroLeaves P e).bind fun ze => guarded (decide (0 < i.size) && ze.length == i.size) <|
      some (decide (0 ≤ a) && a == b && decide (a.toNat * i.bytes ≤ maxBytes) && decide (a.toNat ≤ maxBytes), ((i.size, a.toNat), ((List.replicate a.toNat ze).flatten.map .leaf)))
  | _, _ => none
theorem makeG_V {P : Program} {t : TypeId} {x y : (SV m)} {p : Bool × ((Nat × Nat) × List (SV m))} (h : makeG P t x y = some p) (hp : p.1 = true) : makeV P t x y = some p.2 := by
  unfold makeG at h
  split at h
  · rename_i k1 a k2 b
    rw [Option.bind_eq_some_iff] at h
    obtain ⟨e, he, h⟩ := h
    rw [Option.bind_eq_some_iff] at h
    obtain ⟨i, hi, h⟩ := h
    rw [Option.bind_eq_some_iff] at h
    obtain ⟨ze, hze, h⟩ := h
    obtain ⟨hg, h⟩ := guarded_eq h
    simp only [Option.some.injEq] at h; subst h
    simp only [Bool.and_eq_true, decide_eq_true_eq, beq_iff_eq] at hp hg
    unfold makeV
    simp only [he, hi, hze, Option.bind_some]
    rw [if_pos ⟨⟨hp.1.1.1, hp.1.1.2⟩, ⟨hg.1, hp.1.2, hp.2⟩, hg.2⟩]
  · simp at h
def indexG (P : Program) (t : TypeId) (x i : (SV m)) : Option (Bool × (SV m)) :=
  match P.underlying t, x, i with
  | some .string, .leaf (.str s), .leaf (.int _ n) => some (decide (0 ≤ n) && decide (n < (s.size : Int)), .leaf (.int .u8 (s.data.toList.getD n.toNat 0).toNat))
  | _, _, _ => none
theorem indexG_V {P : Program} {t : TypeId} {x i : (SV m)} {p : Bool × (SV m)} (h : indexG P t x i = some p) (hp : p.1 = true) : indexV P t x i = some p.2 := by
  unfold indexG at h
  split at h
  · rename_i s k n hu
    simp only [Option.some.injEq] at h; subst h
    simp only [Bool.and_eq_true, decide_eq_true_eq] at hp
    unfold indexV
    rw [hu]
    simp only
    rw [if_pos hp.1, if_pos hp.2]
  · simp at h
def appendG (P : Program) (argTypes : Array TypeId) (x y : (SV m)) : Option (Bool × (SV m)) :=
  match argTypes.toList, x with
  | [t, u], .own eo es =>
    (elemT P t).bind fun e => (P.info? e).bind fun i => guarded (eo.getD e == e && decide (0 < i.size) && decide (0 < i.bytes) && zeroSized P e) <|
      match P.underlying u, y.see with
      | some (.slice _), .leaf (.sl _ fs) => if t = u then some (decide ((es.length + fs.length) * i.bytes ≤ maxBytes) && sized i.size fs, .own (some e) (es ++ fs)) else none
      | some .string, .leaf (.str s) => guarded (zeroByte P e) (some (decide (es.length + s.size ≤ maxBytes), .own (some e) (es ++ s.data.toList.map fun b => [.int .u8 b.toNat])))
      | _, _ => none
  | [t, u], .raw eo es =>
    (elemT P t).bind fun e => (P.info? e).bind fun i => guarded (eo.getD e == e && decide (0 < i.size) && decide (0 < i.bytes) && zeroSized P e) <|
      match P.underlying u, y.see with
      | some (.slice _), .leaf (.sl _ fs) => if t = u then some (decide ((es.length + fs.length) * i.bytes ≤ maxBytes) && sized i.size fs, .raw (some e) (es ++ fs)) else none
      | some .string, .leaf (.str s) => guarded (zeroByte P e) (some (decide (es.length + s.size ≤ maxBytes), .raw (some e) (es ++ s.data.toList.map fun b => [.int .u8 b.toNat])))
      | _, _ => none
  | _, _ => none
theorem appendG_V {P : Program} {ts : Array TypeId} {x y : (SV m)} {p : Bool × (SV m)} (h : appendG P ts x y = some p) (hp : p.1 = true) : appendV P ts x y = some p.2 := by
  unfold appendG at h
  split at h
  · rename_i t u eo es hts
    rw [Option.bind_eq_some_iff] at h
    obtain ⟨e, he, h⟩ := h
    rw [Option.bind_eq_some_iff] at h
    obtain ⟨i, hi, h⟩ := h
    obtain ⟨hg, h⟩ := guarded_eq h
    unfold appendV
    rw [hts]
    simp only [he, hi, Option.bind_some, hg, guarded]
    split at h
    · rename_i e2 c fs hu hy
      rw [hu, hy]
      simp only
      split at h
      · rename_i htu
        simp only [Option.some.injEq] at h; subst h
        simp only [Bool.and_eq_true, decide_eq_true_eq] at hp
        rw [if_pos ⟨htu, hp.1⟩, hp.2]
      · simp at h
    · rename_i s hu hy
      rw [hu, hy]
      simp only
      obtain ⟨hz, h⟩ := guarded_eq h
      simp only [Option.some.injEq] at h; subst h
      have hp' := of_decide_eq_true hp
      rw [if_pos hp', hz]
    · simp at h
  · rename_i t u eo es hts
    rw [Option.bind_eq_some_iff] at h
    obtain ⟨e, he, h⟩ := h
    rw [Option.bind_eq_some_iff] at h
    obtain ⟨i, hi, h⟩ := h
    obtain ⟨hg, h⟩ := guarded_eq h
    unfold appendV
    rw [hts]
    simp only [he, hi, Option.bind_some, hg, guarded]
    split at h
    · rename_i e2 c fs hu hy
      rw [hu, hy]
      simp only
      split at h
      · rename_i htu
        simp only [Option.some.injEq] at h; subst h
        simp only [Bool.and_eq_true, decide_eq_true_eq] at hp
        rw [if_pos ⟨htu, hp.1⟩, hp.2]
      · simp at h
    · rename_i s hu hy
      rw [hu, hy]
      simp only
      obtain ⟨hz, h⟩ := guarded_eq h
      simp only [Option.some.injEq] at h; subst h
      have hp' := of_decide_eq_true hp
      rw [if_pos hp', hz]
    · simp at h
  · simp at h
def isByte : List (Leaf m) → Bool | [.int .u8 _] => true | _ => false
def byteOf : List (Leaf m) → UInt8 | [.int .u8 n] => UInt8.ofNat n.toNat | _ => 0
def convG (P : Program) (src dst : TypeId) (x : (SV m)) : Option (Bool × (SV m)) :=
  match P.underlying src, P.underlying dst, x.drop with
  | some (.slice e), some .string, .leaf (.sl _ es) =>
    match P.underlying e with
    | some (.int .u8) => some (es.all isByte, .leaf (.str ⟨(es.map byteOf).toArray⟩))
    | _ => none
  | _, _, _ => (convV P src dst x).map fun v => (true, v)
theorem bytes_all : ∀ (es : List (List (Leaf m))), es.all isByte = true → bytesOfLeaves es = some (es.map byteOf)
  | [], _ => rfl
  | e :: es, h => by
    simp only [List.all_cons, Bool.and_eq_true] at h
    have ih := bytes_all es h.2
    have h1 := h.1
    unfold isByte at h1
    split at h1
    · simp [bytesOfLeaves, ih, byteOf]
    · simp at h1
theorem convG_V {P : Program} {src dst : TypeId} {x : (SV m)} {p : Bool × (SV m)} (h : convG P src dst x = some p) (hp : p.1 = true) : convV P src dst x = some p.2 := by
  unfold convG at h
  split at h
  · rename_i e c es hs hd ex
    unfold convV
    rw [hs, hd, ex]
    simp only
    split at h
    · rename_i he
      simp only [Option.some.injEq] at h; subst h
      rw [he]
      simp [bytes_all es hp]
    · simp at h
  · rw [Option.map_eq_some_iff] at h
    obtain ⟨v, hv, rfl⟩ := h
    exact hv
end Go.Vs
end
section
namespace Go.Vs
variable {m : Bool}
section
variable {β : Type}
def resK (P : Program) (own : Bool) (rk : Nat) (dst : Option Tmp) (t : TypeId) (v : (SV m)) (k : (SV m) → Option β) : Option β := match rk with
  | 0 => (match dst with | none => k v | some _ => castK P own t v k)
  | 1 => (elemT P t).bind fun e => svRawK e v fun es => k (.raw (some e) es)
  | r + 2 => svBslK (r % 16) (r / 16) v fun lo n => k (.bsl (r % 16) (r / 16) lo n)
def rowIds (args : List (SV m)) : List Nat := args.flatMap fun | .bsl b _ _ _ => [b] | _ => []
def call2K (P : Program) (D : (Oracle m)) (s : (St m)) (own pureHint : Bool) (rk : Nat) (f : FuncId) (args : List (SV m)) (dst : Option Tmp) (t : TypeId) (k : (St m) → Option β) : Option β :=
  guarded (args.all SV.handed) <|
    match pureHint with
    | true => guarded (idsOf args).isEmpty ((D f args []).bind fun r => resK P own rk dst t r.1 fun v => k (s.put dst v))
    | false => (boxesAt s.boxes (idsOf args)).bind fun cs => guarded (cs.all (·.all SV.flat)) <|
        (D f (args.map (SV.ren (placeIn (idsOf args)))) cs).bind fun r => boxesK ((idsOf args).map (rowIds args).contains) cs r.2 fun bs => resK P own rk dst t r.1 fun v => k (({ s with boxes := putBoxes s.boxes (idsOf args) bs } : (St m)).put dst (v.ren ((idsOf args).getD · 0)))
def refine (s : (St m)) (x : Operand) (b : Bool) : (St m) := match x with | .tmp t => s.put (some t) (.leaf (.bool b)) | _ => s
def guard2 (s : (St m)) (t : Tmp) (want : Bool) (x y : (St m) → Option β) : Option β :=
  match s.tmps.getD t .any with
  | .leaf (.bool b) => branch (b == want) (x (refine s (.tmp t) want)) (y (refine s (.tmp t) !want))
  | .skip => y s
  | _ => none
def putAt (cs : List (SV m)) (p : Nat) (vs : List (SV m)) : List (SV m) := cs.take p ++ vs ++ cs.drop (p + vs.length)
def exec2K (P : Program) (D : (Oracle m)) (nt : Nat) (mv pu ta : Bool) (rk : Nat) (o : Oper) (s : (St m)) (k : (St m) → Option β) : Option β :=
  match o.op with
  | .pick c a b => onBool (s.eval c) fun t => branch t (k ((refine s c true).put o.dst ((refine s c true).eval a).drop)) (k ((refine s c false).put o.dst ((refine s c false).eval b).drop))
  | .load t x => (match s.eval x with
    | .eptr _ e p => partK P t e p fun v => k (s.put o.dst v)
    | .ptr b p => (match isAggT P t, mv, rk with
      | false, false, _ => (s.box b).bind fun cs => atSV cs p fun c => dropK P t c fun v => k (s.put o.dst v)
      | true, _, 1 => (s.box b).bind fun cs => (sizeT P t).bind fun n => guarded (decide (p + n ≤ cs.length)) (rowK P t cs p n fun v => k (s.put o.dst v))
      | _, _, _ => execK P D nt mv pu ta o s k)
    | _ => execK P D nt mv pu ta o s k)
  | .store t x y => (match s.eval x with
    | .ptr b p => (s.box b).bind fun cs => (sizeT P t).bind fun n => guarded ((s.eval y).data || isFn (s.eval y)) (guarded (n == (s.eval y).cells.length && decide (p + n ≤ cs.length)) (k (((s.take y).setBox b (some (putAt cs p (s.eval y).cells))).put o.dst .skip)))
    | _ => execK P D nt mv pu ta o s k)
  | .makeSlice t l c => (match o.dst with
    | some d => (match s.box d with
      | none => guarded (decide (d < nt)) ((makeG P t (s.eval l) (s.eval c)).bind fun p => guarded p.1 (k ((s.setBox d (some p.2.2)).put o.dst (.bsl d p.2.1.1 0 p.2.1.2))))
      | some _ => none)
    | none => none)
  | .binOp op t x y _ => (binG P op t (s.eval x) (s.eval y)).bind fun p => guarded p.1 (k (s.put o.dst p.2))
  | .convert src dst x => (convG P src dst (s.eval x)).bind fun p => guarded p.1 (k (s.put o.dst p.2))
  | .slice t x lo hi none => (optG s.eval lo).bind fun l => (optG s.eval hi).bind fun h => (sliceG P t (s.eval x) l.2 h.2).bind fun p => guarded (l.1 && h.1 && p.1) (k (s.put o.dst p.2))
  | .indexAddr t x i => (indexAddrG P t (s.eval x) (s.eval i)).bind fun p => guarded p.1 (k (s.put o.dst p.2))
  | .index t x i => (indexG P t (s.eval x) (s.eval i)).bind fun p => guarded p.1 (k (s.put o.dst p.2))
  | .call c => (match c.callee with
    | .builtin .append => (match c.args.toList with
      | [x, y] => (appendG P c.argTypes (s.eval x) (s.eval y)).bind fun p => guarded p.1 (k ((s.take x).put o.dst p.2))
      | _ => none)
    | .builtin .clear => (match c.args.toList with
      | [x] => (match s.eval x with
        | .bsl b z lo n => (s.box b).bind fun cs => (c.argTypes[0]?).bind fun t => (elemT P t).bind fun e => (zeroLeaves P e).bind fun ze => guarded (ze.length == z && decide (0 < z)) (guarded (decide ((lo + n) * z ≤ cs.length)) (k ((s.setBox b (some (putAt cs (lo * z) ((List.replicate n ze).flatten.map .leaf)))).put o.dst .any)))
        | _ => none)
      | _ => none)
    | .value g => (match s.eval g with
      | .fn f caps => guarded (decide (operandTmps c.args.toList).Nodup) (call2K P D (s.takes (takenL ta c.args.toList)) mv pu rk f (c.args.toList.map (argV ta s.eval) ++ caps) o.dst o.type k)
      | _ => none)
    | _ => execK P D nt mv pu ta o s k)
  | _ => execK P D nt mv pu ta o s k
def step2K (P : Program) (D : (Oracle m)) (nt : Nat) (mv pu ta : Bool) (rk : Nat) (ops : Array Oper) (o : Oper) (s : (St m)) (k : (St m) → Option β) : Option β :=
  match o.guard with
  | none => exec2K P D nt mv pu ta rk o s k
  | some (j, want) => match (ops[j]?).bind (·.dst) with
    | some t => guard2 s t want (fun s => exec2K P D nt mv pu ta rk o s k) (fun s => k (s.put o.dst .skip))
    | none => none
def steps2K (P : Program) (D : (Oracle m)) (nt : Nat) (mv pu ta : Nat → Bool) (rk : Nat → Nat) (ops : Array Oper) : List Oper → Nat → (St m) → ((St m) → Option β) → Option β
  | [], _, s, k => k s
  | o :: r, i, s, k => step2K P D nt (mv i) (pu i) (ta i) (rk i) ops o s fun s' => steps2K P D nt mv pu ta rk ops r (i + 1) s' k
def rkOf (H : Hints) (r i : Nat) : Nat := (((H.fz (1048577 + r)).find? fun x => x % 4096 == i).map (· / 4096)).getD 0
end
section
variable {β : Type}
def forceV (v : (SV m)) (k : (SV m) → Option β) : Option β :=
  match v with
  | .any => k .any
  | .skip => k .skip
  | .leaf l => k (.leaf l)
  | .own e es => k (.own e es)
  | .raw e es => k (.raw e es)
  | .agg cs => k (.agg cs)
  | .ptr b o => k (.ptr b o)
  | .eptr c e o => k (.eptr c e o)
  | .bsl b z lo n => k (.bsl b z lo n)
  | .kfn f cs => k (.kfn f cs)
  | .nilptr => k .nilptr
  | .nilface => k .nilface
  | .fn f caps => k (.fn f caps)
  | .tup vs => k (.tup vs)
theorem forceV_eq (v : (SV m)) (k : (SV m) → Option β) : forceV v k = k v := by cases v <;> rfl
def forceL : List (SV m) → (List (SV m) → Option β) → Option β
  | [], k => k []
  | v :: l, k => forceV v fun v' => forceL l fun l' => k (v' :: l')
theorem forceL_eq : ∀ (l : List (SV m)) (k : List (SV m) → Option β), forceL l k = k l
  | [], _ => rfl
  | v :: l, k => by simp only [forceL, forceV_eq, forceL_eq l]
def forceB : List (Option (List (SV m))) → (List (Option (List (SV m))) → Option β) → Option β
  | [], k => k []
  | none :: l, k => forceB l fun l' => k (none :: l')
  | some c :: l, k => forceB l fun l' => k (some c :: l')
theorem forceB_eq : ∀ (l : List (Option (List (SV m)))) (k : List (Option (List (SV m))) → Option β), forceB l k = k l
  | [], _ => rfl
  | none :: l, k => by simp only [forceB, forceB_eq l]
  | some c :: l, k => by simp only [forceB, forceB_eq l]
def forceSt (s : (St m)) (k : (St m) → Option β) : Option β := forceL s.tmps fun t => forceB s.boxes fun b => k ⟨t, b⟩
theorem forceSt_eq (s : (St m)) (k : (St m) → Option β) : forceSt s k = k s := by unfold forceSt; rw [forceL_eq, forceB_eq]
end
def code2K {β : Type} (P : Program) (D : (Oracle m)) (H : Hints) (loop : ((St m) → Option (Out m)) → ((St m) → Option (St m)) → (St m) → Option (Out m)) : Nat → Code → (St m) → ((Out m) → Option β) → Option β
  | _, .skip, s, k => k (.norm s)
  | _, .region id ops draw, s, k => guarded (!draw || okRegion (H.mv id) (H.pure id) (H.take id) ops) (steps2K P D H.nt (H.mv id) (H.pure id) (H.take id) (rkOf H id) ops ops.toList 0 s fun s' => forceSt (St.freeze H.nt (s'.tidy (H.after id) (H.afterB id)) (H.fz id)) fun s' => k (.norm s'))
  | blk, .seq a b, s, k => code2K P D H loop blk a s (seqK (fun s' => code2K P D H loop blk b s' k) k)
  | blk, .cond c a b, s, k => onBool (s.eval c) fun t => branch t (forceSt (s.dropC H.condA c) fun s => code2K P D H loop blk a s k) (forceSt (s.dropC H.condB c) fun s => code2K P D H loop blk b s k)
  | _, .block id a, s, k => code2K P D H loop id a s (blockK id k)
  | blk, .loop a, s, k => (loop (fun s => code2K P D H loop blk a s some) (fun s => s.again (H.clear blk) (H.drop blk)) s).bind k
  | _, .exit id, s, k => k (.exit id s)
  | _, .ret, s, k => k (.ret s)
  | _, _, _, _ => none
def leave2 (P : Program) (fn : Func) (n : Nat) (s : (St m)) : Option ((SV m) × List (List (SV m))) := match fn.results.toList with
  | [.tmp t] => (match s.tmps.getD t .any with
    | .bsl b z lo k => (match decide (b < fn.ntmps) with
      | true => guarded (lo == 0 && decide (0 < z)) ((s.box b).bind fun cs => guarded (decide (k * z ≤ cs.length)) ((asLeaves (cs.take (k * z))).bind fun l =>
        (boxesAt s.boxes ((List.range n).map (fn.ntmps + ·))).bind fun cs' => guarded (cs'.all (·.all SV.flat)) (some (.leaf (.sl (Fl.new m) (chunks z k l)), cs'))))
      | false => leaveV P fn n s)
    | _ => leaveV P fn n s)
  | _ => leaveV P fn n s
def endK2 (P : Program) (fn : Func) (n : Nat) : (Out m) → Option ((SV m) × List (List (SV m)))
  | .norm s => leave2 P fn n s
  | .ret s => leave2 P fn n s
  | .exit _ _ => none
theorem leave2_ref {P : Program} {fn : Func} {n : Nat} {s : St m} {r : (SV m) × List (List (SV m))} (h : leave2 P fn n s = some r) : leaveV P fn n s = some r := by
  unfold leave2 at h
  split at h
  · rename_i t hr
    split at h
    · rename_i b z lo k hv
      split at h
      · rename_i hb
        have hb := of_decide_eq_true hb
        obtain ⟨h1, h'⟩ := guarded_eq h
        replace h := h'
        clear h'
        simp only [Bool.and_eq_true, beq_iff_eq, decide_eq_true_eq] at h1
        obtain ⟨rfl, hz⟩ := h1
        rw [Option.bind_eq_some_iff] at h
        obtain ⟨cs, hcs, h⟩ := h
        obtain ⟨h2, h⟩ := guarded_eq h
        have h2 := of_decide_eq_true h2
        rw [Option.bind_eq_some_iff] at h
        obtain ⟨l, hl, h⟩ := h
        rw [Option.bind_eq_some_iff] at h
        obtain ⟨cs', hcs', h⟩ := h
        obtain ⟨h3, h⟩ := guarded_eq h
        have hbox : s.box b = some cs := hcs
        have hres : resultV P fn s = some (.leaf (.sl (Fl.new m) (chunks z k l))) := by
          unfold resultV
          rw [hr]
          simp only [resOne, hv, sealV]
          rw [if_pos ⟨hb, trivial⟩, hbox, Option.bind_some, if_pos ⟨h2, hz⟩, hl]
          rfl
        unfold leaveV
        rw [hres, Option.bind_some]
        rw [show SV.homeOk fn.ntmps n (SV.leaf (Leaf.sl (Fl.new m) (chunks z k l))) = true from rfl]
        simp only [guarded]
        rw [hcs', Option.bind_some, h3]
        exact h
      · exact h
    · exact h
  · exact h
theorem endK2_ref {P : Program} {fn : Func} {n : Nat} {o : Out m} {r : (SV m) × List (List (SV m))} (h : endK2 P fn n o = some r) : endK P fn n o = some r := by
  cases o with
  | norm s => exact leave2_ref h
  | ret s => exact leave2_ref h
  | exit _ _ => simp [endK2] at h
def run2V (P : Program) (D : (Oracle m)) (H : FuncId → Hints) (loop : ((St m) → Option (Out m)) → ((St m) → Option (St m)) → (St m) → Option (Out m)) : (Oracle m) := fun f args boxes =>
  match P.funcs[f]? with
  | some fn => match fn.body with
    | some c => code2K P D ((H f).fit fn.ntmps) loop 0 c (St.freeze fn.ntmps (enterV fn args boxes) ((H f).fz 1048576)) (endK2 P fn boxes.length)
    | none => none
  | none => none
section
variable {P : Program} {D : (Oracle m)} {β : Type}
theorem exec_mono {nt : Nat} {mv pu ta : Bool} {o : Oper} {s : (St m)} {k1 k2 : (St m) → Option β} {y : β} (hk : ∀ s, k2 s = some y → k1 s = some y) (h : execK P D nt mv pu ta o s k2 = some y) : execK P D nt mv pu ta o s k1 = some y := by
  rw [exec_eff, Option.bind_eq_some_iff] at h ⊢
  obtain ⟨e, he, h⟩ := h
  exact ⟨e, he, hk _ h⟩
theorem resK_eq {own : Bool} {rk : Nat} {dst : Option Tmp} {t : TypeId} {v : (SV m)} {k : (SV m) → Option β} {y : β} (h : resK P own rk dst t v k = some y) : k v = some y := by
  unfold resK at h
  split at h
  · split at h
    · exact h
    · exact castK_eq h
  · rw [Option.bind_eq_some_iff] at h
    obtain ⟨e, _, h⟩ := h
    unfold svRawK at h
    split at h
    · split at h
      · rename_i he; subst he; exact h
      · simp at h
    · simp at h
  · unfold svBslK at h
    split at h
    · split at h
      · rename_i hc; rw [hc.1, hc.2]; exact h
      · simp at h
    · simp at h
theorem call2_ref {s : (St m)} {own pu : Bool} {rk : Nat} {f : FuncId} {args : List (SV m)} {dst : Option Tmp} {t : TypeId} {k1 k2 : (St m) → Option β} {y : β} (hk : ∀ s, k2 s = some y → k1 s = some y) (h : call2K P D s own pu rk f args dst t k2 = some y) : callK D s pu f args dst k1 = some y := by
  unfold call2K at h
  obtain ⟨h1, h⟩ := guarded_eq h
  unfold callK
  rw [h1]
  simp only [guarded]
  split at h
  · obtain ⟨h2, h⟩ := guarded_eq h
    rw [if_pos rfl, if_pos (by simpa using h2)]
    rw [Option.bind_eq_some_iff] at h ⊢
    obtain ⟨r, hr, h⟩ := h
    exact ⟨r, hr, hk _ (resK_eq h)⟩
  · rw [if_neg (by simp)]
    rw [Option.bind_eq_some_iff] at h ⊢
    obtain ⟨cs, hcs, h⟩ := h
    obtain ⟨h2, h⟩ := guarded_eq h
    refine ⟨cs, hcs, ?_⟩
    rw [h2]
    simp only
    rw [Option.bind_eq_some_iff] at h ⊢
    obtain ⟨r, hr, h⟩ := h
    refine ⟨r, hr, hk _ ?_⟩
    have h3 := boxesK_eq _ cs r.2 _ y h
    exact resK_eq h3
theorem gk {x : Option (Bool × (SV m))} {x' : Option (SV m)} {k1 k2 : (SV m) → Option β} {y : β} (hx : ∀ p, x = some p → p.1 = true → x' = some p.2) (hk : ∀ v, k2 v = some y → k1 v = some y) (h : x.bind (fun p => guarded p.1 (k2 p.2)) = some y) : x'.bind k1 = some y := by
  rw [Option.bind_eq_some_iff] at h
  obtain ⟨p, hp, h⟩ := h
  obtain ⟨h1, h2⟩ := guarded_eq h
  rw [hx p hp h1, Option.bind_some]
  exact hk _ h2
theorem refine_eq {s : (St m)} {x : Operand} {b : Bool} (h : s.eval x = .leaf (.bool b)) : refine s x b = s := by
  cases x with
  | tmp t =>
    simp only [refine, St.put]
    have h' : s.tmps.getD t .any = .leaf (.bool b) := h
    have hl : s.tmps[t]? = some (.leaf (.bool b)) := by
      rw [List.getD_eq_getElem?_getD] at h'
      cases hx : s.tmps[t]? with
      | none => rw [hx] at h'; simp at h'
      | some v => rw [hx] at h'; simpa using h'
    have : s.tmps.set t (.leaf (.bool b)) = s.tmps := by
      apply List.ext_getElem?
      intro i
      by_cases hi : t = i
      · subst hi; rw [List.getElem?_set_self (List.getElem?_eq_some_iff.1 hl).1, hl]
      · rw [List.getElem?_set_ne hi]
    rw [this]
  | _ => rfl
theorem guard2_eq {s : (St m)} {t : Tmp} {want : Bool} {x y : (St m) → Option β} : guard2 s t want x y = onGuard (s.tmps.getD t .any) want (x s) (y s) := by
  unfold guard2 onGuard
  have hr : ∀ b, s.tmps.getD t .any = .leaf (.bool b) → refine s (.tmp t) b = s := fun b hb => refine_eq (x := .tmp t) hb
  generalize s.tmps.getD t .any = v at hr
  cases v with
  | leaf l =>
    cases l with
    | bool b =>
      simp only [branch_eq]
      by_cases hw : b = want
      · subst hw; simp [hr b rfl]
      · have : b = !want := by cases b <;> cases want <;> simp_all
        subst this
        simp [hr _ rfl]
    | _ => rfl
  | _ => rfl
theorem exec2_ref {nt : Nat} {mv pu ta : Bool} {rk : Nat} {o : Oper} {s : (St m)} {k1 k2 : (St m) → Option β} {y : β} (hk : ∀ s, k2 s = some y → k1 s = some y) (h : exec2K P D nt mv pu ta rk o s k2 = some y) : execK P D nt mv pu ta o s k1 = some y := by
  cases hop : o.op
  case load t x =>
    simp only [exec2K, hop] at h
    split at h
    · rename_i c e p hx
      obtain ⟨v, hv, h⟩ := partK_eq h
      simp only [execK, hop, hx, hv, Option.bind_some]
      exact hk _ h
    · rename_i b p hx
      split at h
      · rename_i ha
        rw [Option.bind_eq_some_iff] at h
        obtain ⟨cs, hcs, h⟩ := h
        obtain ⟨c, hc, h⟩ := atSV_eq h
        have h := dropK_eq h
        simp only [execK, hop, hx, hcs, Option.bind_some]
        rw [if_neg (by simp [ha]), hc]
        exact hk _ h
      · rename_i ha
        rw [Option.bind_eq_some_iff] at h
        obtain ⟨cs, hcs, h⟩ := h
        rw [Option.bind_eq_some_iff] at h
        obtain ⟨n, hn, h⟩ := h
        obtain ⟨hle, h⟩ := guarded_eq h
        have hle := of_decide_eq_true hle
        unfold rowK at h
        rw [Option.bind_eq_some_iff] at h
        obtain ⟨e, he, h⟩ := h
        obtain ⟨v, hv, h⟩ := partK_eq h
        have hel : e.length = n := by rw [asLeaves_len he, List.length_take, List.length_drop]; omega
        have hve : v = .agg e := by
          unfold partL at hv
          rw [if_pos ha, hn, Option.bind_some, if_pos (by omega), List.drop_zero, ← hel, List.take_length] at hv
          exact (Option.some.inj hv).symm
        subst hve
        simp only [execK, hop, hx, hcs, Option.bind_some]
        rw [if_pos ha, hn, Option.bind_some, if_pos hle, he]
        exact hk _ h
      · exact exec_mono hk h
    · exact exec_mono hk h
  case store t x y =>
    simp only [exec2K, hop] at h
    split at h
    · rename_i b p hx
      rw [Option.bind_eq_some_iff] at h
      obtain ⟨cs, hcs, h⟩ := h
      rw [Option.bind_eq_some_iff] at h
      obtain ⟨n, hn, h⟩ := h
      obtain ⟨h1, h⟩ := guarded_eq h
      obtain ⟨h2, h⟩ := guarded_eq h
      simp only [Bool.and_eq_true, beq_iff_eq, decide_eq_true_eq] at h2
      simp only [execK, hop, hx, hcs, hn, Option.bind_some, h1, guarded]
      rw [if_pos h2]
      have := hk _ h
      rw [putAt, ← h2.1] at this
      exact this
    · exact exec_mono hk h
  case makeSlice t l c =>
    simp only [exec2K, hop] at h
    simp only [execK, hop]
    split at h
    · rename_i d hd
      rw [hd]
      simp only
      split at h
      · rename_i hb
        rw [hb]
        simp only
        obtain ⟨h1, h⟩ := guarded_eq h
        rw [h1]
        simp only [guarded]
        rw [Option.bind_eq_some_iff] at h ⊢
        obtain ⟨p, hp, h⟩ := h
        obtain ⟨h2, h⟩ := guarded_eq h
        refine ⟨p.2, makeG_V hp h2, ?_⟩
        rw [hd] at h
        exact hk _ h
      · simp at h
    · simp at h
  case pick c x z =>
    simp only [exec2K, hop] at h
    simp only [execK, hop]
    obtain ⟨b, hb, h⟩ := onBool_eq h
    rw [hb]
    simp only [onBool]
    cases b
    · simp only [branch, refine_eq hb] at h ⊢; exact hk _ h
    · simp only [branch, refine_eq hb] at h ⊢; exact hk _ h
  case binOp op t x z u =>
    simp only [exec2K, hop] at h
    simp only [execK, hop]
    exact gk (fun p hp h1 => binG_V hp h1) (fun v => hk _) h
  case convert src dst x =>
    simp only [exec2K, hop] at h
    simp only [execK, hop]
    exact gk (fun p hp h1 => convG_V hp h1) (fun v => hk _) h
  case slice t x lo hi mx =>
    cases mx with
    | some m => simp only [exec2K, hop] at h; exact exec_mono hk h
    | none =>
      simp only [exec2K, hop] at h
      simp only [execK, hop]
      rw [Option.bind_eq_some_iff] at h
      obtain ⟨l, hl, h⟩ := h
      rw [Option.bind_eq_some_iff] at h
      obtain ⟨r, hr, h⟩ := h
      rw [Option.bind_eq_some_iff] at h
      obtain ⟨p, hp, h⟩ := h
      obtain ⟨h1, h2⟩ := guarded_eq h
      simp only [Bool.and_eq_true] at h1
      rw [optG_V hl h1.1.1, Option.bind_some, optG_V hr h1.1.2, Option.bind_some, sliceG_V hp h1.2, Option.bind_some]
      exact hk _ h2
  case indexAddr t x i =>
    simp only [exec2K, hop] at h
    simp only [execK, hop]
    exact gk (fun p hp h1 => indexAddrG_V hp h1) (fun v => hk _) h
  case index t x i =>
    simp only [exec2K, hop] at h
    simp only [execK, hop]
    exact gk (fun p hp h1 => indexG_V hp h1) (fun v => hk _) h
  case call c =>
    cases hc : c.callee with
    | invoke r m => simp only [exec2K, hop, hc] at h; exact exec_mono hk h
    | value g =>
      simp only [exec2K, hop, hc] at h
      simp only [execK, hop, hc]
      split at h
      · rename_i f caps hg
        obtain ⟨h1, h⟩ := guarded_eq h
        rw [hg]
        simp only [h1, guarded]
        exact call2_ref hk h
      · simp at h
    | builtin b =>
      cases b
      case append =>
        simp only [exec2K, hop, hc] at h
        simp only [execK, hop, hc]
        split at h
        · rename_i x z hargs
          rw [hargs]
          simp only
          exact gk (fun p hp h1 => appendG_V hp h1) (fun v => hk _) h
        · simp at h
      case clear =>
        simp only [exec2K, hop, hc] at h
        simp only [execK, hop, hc]
        split at h
        · rename_i x hargs
          rw [hargs]
          simp only
          split at h
          · rename_i b z lo n hx
            rw [hx]
            simp only
            rw [Option.bind_eq_some_iff] at h
            obtain ⟨cs, hcs, h⟩ := h
            rw [Option.bind_eq_some_iff] at h
            obtain ⟨t, ht, h⟩ := h
            rw [Option.bind_eq_some_iff] at h
            obtain ⟨e, he, h⟩ := h
            rw [Option.bind_eq_some_iff] at h
            obtain ⟨ze, hze, h⟩ := h
            obtain ⟨h1, h⟩ := guarded_eq h
            obtain ⟨h2, h⟩ := guarded_eq h
            simp only [Bool.and_eq_true, beq_iff_eq, decide_eq_true_eq] at h1 h2
            have hcl : clearV P c.argTypes cs z lo n = some (putAt cs (lo * z) ((List.replicate n ze).flatten.map .leaf)) := by
              have hl : ((List.replicate n ze).flatten.map (SV.leaf (m := m))).length = n * z := by simp [h1.1]
              have ha : (lo + n) * z = lo * z + n * z := Nat.add_mul _ _ _
              simp only [clearV, ht, he, hze, Option.bind_some]
              rw [if_pos ⟨h1, h2⟩, putAt, hl, ha]
            rw [hcs, Option.bind_some, hcl, Option.bind_some]
            exact hk _ h
          · simp at h
        · simp at h
      all_goals (simp only [exec2K, hop, hc] at h; exact exec_mono hk h)
  all_goals (simp only [exec2K, hop] at h; exact exec_mono hk h)
theorem step2_ref {nt : Nat} {mv pu ta : Bool} {rk : Nat} {ops : Array Oper} {o : Oper} {s : (St m)} {k1 k2 : (St m) → Option β} {y : β} (hk : ∀ s, k2 s = some y → k1 s = some y) (h : step2K P D nt mv pu ta rk ops o s k2 = some y) : stepK P D nt mv pu ta ops o s k1 = some y := by
  unfold step2K at h
  unfold stepK
  cases hg : o.guard with
  | none => rw [hg] at h; exact exec2_ref hk h
  | some g =>
    obtain ⟨j, want⟩ := g
    rw [hg] at h
    simp only at h ⊢
    cases hj : (ops[j]?).bind (·.dst) with
    | none => rw [hj] at h; simp at h
    | some t =>
      rw [hj] at h
      simp only at h ⊢
      rw [guard2_eq] at h
      unfold onGuard at h ⊢
      split at h
      · rename_i b hb
        rw [branch_eq] at h ⊢
        split at h
        · rename_i hbw
          rw [if_pos hbw]
          exact exec2_ref hk h
        · rename_i hbw
          rw [if_neg hbw]
          exact hk _ h
      · exact hk _ h
      · simp at h
theorem steps2_ref {nt : Nat} {mv pu ta : Nat → Bool} {rk : Nat → Nat} {ops : Array Oper} {y : β} : ∀ (l : List Oper) (i : Nat) (s : (St m)) (k1 k2 : (St m) → Option β), (∀ s, k2 s = some y → k1 s = some y) → steps2K P D nt mv pu ta rk ops l i s k2 = some y → stepsK P D nt mv pu ta ops l i s k1 = some y
  | [], i, s, k1, k2, hk, h => hk _ h
  | o :: l, i, s, k1, k2, hk, h => by
    simp only [steps2K] at h
    simp only [stepsK]
    exact step2_ref (fun s' h' => steps2_ref l (i + 1) s' k1 k2 hk h') h
def Up (loop : ((St m) → Option (Out m)) → ((St m) → Option (St m)) → (St m) → Option (Out m)) : Prop := ∀ body body' again s o, (∀ s o, body s = some o → body' s = some o) → loop body again s = some o → loop body' again s = some o
theorem up_limR : Up (m := m) limR := by
  intro body body' again s o hb h
  obtain ⟨n, hn⟩ := limR_iff.1 h
  exact limR_iff.2 ⟨n, rounds_mono hb n n (Nat.le_refl _) s o hn⟩
theorem seqK_mono {f1 f2 : (St m) → Option β} {k1 k2 : (Out m) → Option β} {y : β} (hf : ∀ s, f2 s = some y → f1 s = some y) (hk : ∀ o, k2 o = some y → k1 o = some y) : ∀ o, seqK f2 k2 o = some y → seqK f1 k1 o = some y := by
  intro o h
  cases o with
  | norm s => exact hf s h
  | exit id s => exact hk _ h
  | ret s => exact hk _ h
theorem blockK_mono {id : Nat} {k1 k2 : (Out m) → Option β} {y : β} (hk : ∀ o, k2 o = some y → k1 o = some y) : ∀ o, blockK id k2 o = some y → blockK id k1 o = some y := by
  intro o h
  cases o with
  | norm s => exact hk _ h
  | exit id' s =>
    simp only [blockK] at h ⊢
    split at h
    · rename_i he; rw [if_pos he]; exact hk _ h
    · rename_i he; rw [if_neg he]; exact hk _ h
  | ret s => exact hk _ h
theorem code2_ref {H : Hints} {loop : ((St m) → Option (Out m)) → ((St m) → Option (St m)) → (St m) → Option (Out m)} (hL : Up loop) : ∀ (c : Code) (blk : Nat) {β : Type} (s : (St m)) (k1 k2 : (Out m) → Option β) (y : β), (∀ o, k2 o = some y → k1 o = some y) → code2K P D H loop blk c s k2 = some y → codeK P D H loop blk c s k1 = some y := by
  intro c
  induction c with
  | skip => intro blk β s k1 k2 y hk h; exact hk _ h
  | region id ops draw =>
    intro blk β s k1 k2 y hk h
    simp only [code2K] at h
    obtain ⟨hg, h⟩ := guarded_eq h
    simp only [codeK, hg, guarded]
    exact steps2_ref _ _ _ _ _ (fun s' h' => by rw [forceSt_eq] at h'; exact hk _ h') h
  | seq a b iha ihb =>
    intro blk β s k1 k2 y hk h
    simp only [code2K] at h
    simp only [codeK]
    exact iha blk s _ _ y (seqK_mono (fun s' => ihb blk s' k1 k2 y hk) hk) h
  | cond x a b iha ihb =>
    intro blk β s k1 k2 y hk h
    simp only [code2K] at h
    simp only [codeK]
    obtain ⟨t, ht, h⟩ := onBool_eq h
    rw [ht]
    simp only [onBool]
    simp only [forceSt_eq] at h
    cases t
    · exact ihb blk _ k1 k2 y hk h
    · exact iha blk _ k1 k2 y hk h
  | block id a ih =>
    intro blk β s k1 k2 y hk h
    simp only [code2K] at h
    simp only [codeK]
    exact ih id s _ _ y (blockK_mono hk) h
  | loop a ih =>
    intro blk β s k1 k2 y hk h
    simp only [code2K] at h
    simp only [codeK]
    rw [Option.bind_eq_some_iff] at h ⊢
    obtain ⟨o, ho, h⟩ := h
    exact ⟨o, hL _ _ _ _ _ (fun s' o' h' => ih blk s' some some o' (fun _ h => h) h') ho, hk _ h⟩
  | exit id => intro blk β s k1 k2 y hk h; exact hk _ h
  | ret => intro blk β s k1 k2 y hk h; exact hk _ h
  | _ => intro blk β s k1 k2 y hk h; simp [code2K] at h
theorem run2_ref {H : FuncId → Hints} {loop : ((St m) → Option (Out m)) → ((St m) → Option (St m)) → (St m) → Option (Out m)} (hL : Up loop) {f : FuncId} {a : List (SV m)} {b : List (List (SV m))} {r : (SV m) × List (List (SV m))} (h : run2V P D H loop f a b = some r) : runV P D H loop f a b = some r := by
  unfold run2V at h
  unfold runV
  cases hfn : P.funcs[f]? with
  | none => rw [hfn] at h; simp at h
  | some fn =>
    rw [hfn] at h
    simp only at h ⊢
    cases hc : fn.body with
    | none => rw [hc] at h; simp at h
    | some c =>
      rw [hc] at h
      simp only at h ⊢
      exact code2_ref hL c 0 _ _ _ r (fun _ h => endK2_ref h) h
theorem den_fast {T : (Told m)} {H : FuncId → Hints} {f : FuncId} {a : List (SV m)} {b : List (List (SV m))} {r : (SV m) × List (List (SV m))} (hT : T f = none) (h : run2V P (den P T H) H limR f a b = some r) : den P T H f a b = some r :=
  den_run hT (run2_ref up_limR h)
end
end Go.Vs
end
section
namespace Go.Vs
variable {m : Bool}
def sub : Code → List Nat → Code
  | c, [] => c
  | .seq a b, n :: r => if n = 0 then sub a r else sub b r
  | .cond _ a b, n :: r => if n = 0 then sub a r else sub b r
  | .block _ a, _ :: r => sub a r
  | .loop a, _ :: r => sub a r
  | c, _ => c
def bodyOf (P : Program) (f : FuncId) : Code := match P.funcs[f]? with | some fn => fn.body.getD .skip | none => .skip
def fnOf (P : Program) (f : FuncId) : Func := (P.funcs[f]?).getD default
structure Tab where
  mv : List (List Nat)
  boxed : List (List Nat)
  take : List (List Nat)
  clear : List (Nat × List Nat)
  drop : List (Nat × List Nat)
  after : List (List Nat)
  afterB : List (List Nat)
  condA : List (Nat × List Nat × List Nat)
  condB : List (Nat × List Nat × List Nat)
  fz : List (Nat × List Nat)
def Tab.hints (t : Tab) : Hints :=
  { nt := 0
    mv := fun r i => (t.mv.getD r []).contains i
    pure := fun r i => !(t.boxed.getD r []).contains i
    take := fun r i => (t.take.getD r []).contains i
    clear := fun b => ((t.clear.find? fun p => p.1 == b).map (·.2)).getD []
    drop := fun b => ((t.drop.find? fun p => p.1 == b).map (·.2)).getD []
    after := fun r => t.after.getD r []
    afterB := fun r => t.afterB.getD r []
    condA := fun b => ((t.condA.find? fun p => p.1 == b).map (·.2)).getD ([], [])
    condB := fun b => ((t.condB.find? fun p => p.1 == b).map (·.2)).getD ([], [])
    fz := fun b => ((t.fz.find? fun p => p.1 == b).map (·.2)).getD [] }
def noTab : Tab := ⟨[], [], [], [], [], [], [], [], [], []⟩
end Go.Vs
end
section
namespace Go.Vs
variable {m : Bool}
section
variable {α β : Type}
theorem guarded_bind (b : Bool) (x : Option α) (f : α → Option β) : (guarded b x).bind f = guarded b (x.bind f) := by cases b <;> rfl
theorem branch_bind (b : Bool) (x y : Option α) (f : α → Option β) : (branch b x y).bind f = branch b (x.bind f) (y.bind f) := by cases b <;> rfl
theorem onBool_bind (v : (SV m)) (k : Bool → Option α) (f : α → Option β) : (onBool v k).bind f = onBool v fun b => (k b).bind f := by unfold onBool; split <;> rfl
theorem intK_bind (k0 : IntKind) (l : (Leaf m)) (k : Int → Option α) (f : α → Option β) : (intK k0 l k).bind f = intK k0 l fun n => (k n).bind f := by
  unfold intK; split
  · split <;> rfl
  · rfl
theorem boolK_bind (l : (Leaf m)) (k : Bool → Option α) (f : α → Option β) : (boolK l k).bind f = boolK l fun n => (k n).bind f := by unfold boolK; split <;> rfl
theorem strK_bind (l : (Leaf m)) (k : ByteArray → Option α) (f : α → Option β) : (strK l k).bind f = strK l fun n => (k n).bind f := by unfold strK; split <;> rfl
theorem slK_bind (l : (Leaf m)) (k : Fl m → List (List (Leaf m)) → Option α) (f : α → Option β) : (slK l k).bind f = slK l fun c n => (k c n).bind f := by unfold slK; split <;> rfl
theorem leafK_bind (P : Program) (t : TypeId) (l : (Leaf m)) (k : (Leaf m) → Option α) (f : α → Option β) : (leafK P t l k).bind f = leafK P t l fun n => (k n).bind f := by
  unfold leafK
  split
  · exact intK_bind _ _ _ _
  · exact boolK_bind _ _ _
  · exact strK_bind _ _ _
  · exact slK_bind _ _ _
  · rfl
theorem atK_bind (e : List (Leaf m)) (p : Nat) (k : (Leaf m) → Option α) (f : α → Option β) : (atK e p k).bind f = atK e p fun n => (k n).bind f := by unfold atK; split <;> rfl
theorem cellsAtK_bind (P : Program) : ∀ (ts : List TypeId) (e : List (Leaf m)) (p : Nat) (k : List (Leaf m) → Option α) (f : α → Option β), (cellsAtK P ts e p k).bind f = cellsAtK P ts e p fun n => (k n).bind f
  | [], e, p, k, f => rfl
  | t :: ts, e, p, k, f => by
    simp only [cellsAtK]
    rw [atK_bind]
    congr 1
    funext l
    rw [leafK_bind]
    congr 1
    funext l'
    exact cellsAtK_bind P ts e (p + 1) _ f
theorem partK_bind (P : Program) (t : TypeId) (e : List (Leaf m)) (p : Nat) (k : (SV m) → Option α) (f : α → Option β) : (partK P t e p k).bind f = partK P t e p fun n => (k n).bind f := by
  unfold partK
  split
  · rw [Option.bind_assoc]
    congr 1
    funext ts
    rw [Option.bind_assoc]
    congr 1
    funext n
    split
    · exact cellsAtK_bind P ts e p _ f
    · rfl
  · rw [atK_bind]
    congr 1
    funext l
    exact leafK_bind P t l _ f
theorem svLeafK_bind (v : (SV m)) (k : (Leaf m) → Option α) (f : α → Option β) : (svLeafK v k).bind f = svLeafK v fun n => (k n).bind f := by unfold svLeafK; split <;> rfl
theorem svSlK_bind (v : (SV m)) (k : Fl m → List (List (Leaf m)) → Option α) (f : α → Option β) : (svSlK v k).bind f = svSlK v fun c n => (k c n).bind f := by unfold svSlK; split <;> rfl
theorem svOwnK_bind (e : TypeId) (v : (SV m)) (k : List (List (Leaf m)) → Option α) (f : α → Option β) : (svOwnK e v k).bind f = svOwnK e v fun n => (k n).bind f := by
  unfold svOwnK; split
  · split <;> rfl
  · rfl
theorem svAggK_bind (v : (SV m)) (k : List (Leaf m) → Option α) (f : α → Option β) : (svAggK v k).bind f = svAggK v fun n => (k n).bind f := by unfold svAggK; split <;> rfl
theorem svNilK_bind (v : (SV m)) (k : Option α) (f : α → Option β) : (svNilK v k).bind f = svNilK v (k.bind f) := by unfold svNilK; split <;> rfl
theorem svTupK_bind (v : (SV m)) (k : List (SV m) → Option α) (f : α → Option β) : (svTupK v k).bind f = svTupK v fun n => (k n).bind f := by unfold svTupK; split <;> rfl
theorem headK_bind (l : List (SV m)) (k : (SV m) → List (SV m) → Option α) (f : α → Option β) : (headK l k).bind f = headK l fun v r => (k v r).bind f := by unfold headK; split <;> rfl
theorem lastK_bind (l : List (SV m)) (k : Option α) (f : α → Option β) : (lastK l k).bind f = lastK l (k.bind f) := by unfold lastK; split <;> rfl
theorem cast1K_bind (P : Program) (own : Bool) (t : TypeId) (v : (SV m)) (k : (SV m) → Option α) (f : α → Option β) : (cast1K P own t v k).bind f = cast1K P own t v fun n => (k n).bind f := by
  unfold cast1K
  split
  · split
    · exact svOwnK_bind _ _ _ _
    · exact svSlK_bind _ _ _
  · rw [svAggK_bind]
    congr 1
    funext cs
    rw [Option.bind_assoc]
    congr 1
    funext ts
    rw [guarded_bind]
    congr 1
    exact cellsAtK_bind P ts cs 0 _ f
  · exact svNilK_bind _ _ _
  · rw [svLeafK_bind]
    congr 1
    funext l
    exact leafK_bind P t l _ f
  · rfl
theorem castsK_bind (P : Program) : ∀ (ts : List TypeId) (l : List (SV m)) (k : List (SV m) → Option α) (f : α → Option β), (castsK P ts l k).bind f = castsK P ts l fun n => (k n).bind f
  | [], l, k, f => lastK_bind l _ f
  | t :: ts, l, k, f => by
    simp only [castsK]
    rw [headK_bind]
    congr 1
    funext v r
    rw [cast1K_bind]
    congr 1
    funext v'
    exact castsK_bind P ts r _ f
theorem castK_bind (P : Program) (own : Bool) (t : TypeId) (v : (SV m)) (k : (SV m) → Option α) (f : α → Option β) : (castK P own t v k).bind f = castK P own t v fun n => (k n).bind f := by
  unfold castK
  split
  · rw [svTupK_bind]
    congr 1
    funext vs
    exact castsK_bind P _ vs _ f
  · exact cast1K_bind P own t v k f
theorem likeK_bind (c d : (SV m)) (k : (SV m) → Option α) (f : α → Option β) : (likeK c d k).bind f = likeK c d fun n => (k n).bind f := by
  unfold likeK
  split
  · rw [svLeafK_bind]; congr 1; funext l; exact intK_bind _ _ _ _
  · rw [svLeafK_bind]; congr 1; funext l; exact boolK_bind _ _ _
  · rw [svLeafK_bind]; congr 1; funext l; exact strK_bind _ _ _
  · exact svSlK_bind _ _ _
  · exact svOwnK_bind _ _ _ _
  · rfl
theorem likesK_bind : ∀ (cs l : List (SV m)) (k : List (SV m) → Option α) (f : α → Option β), (likesK cs l k).bind f = likesK cs l fun n => (k n).bind f
  | [], l, k, f => lastK_bind l _ f
  | c :: cs, l, k, f => by
    simp only [likesK]
    rw [headK_bind]
    congr 1
    funext v r
    rw [likeK_bind]
    congr 1
    funext v'
    exact likesK_bind cs r _ f
theorem boxK_bind (w : Bool) (c d : List (SV m)) (k : List (SV m) → Option α) (f : α → Option β) : (boxK w c d k).bind f = boxK w c d fun n => (k n).bind f := by
  cases w
  · exact likesK_bind c d k f
  · rfl
theorem boxesK_bind : ∀ (ws : List Bool) (cs l : List (List (SV m))) (k : List (List (SV m)) → Option α) (f : α → Option β), (boxesK ws cs l k).bind f = boxesK ws cs l fun n => (k n).bind f
  | [], _, l, k, f => by simp only [boxesK]; unfold lastB; split <;> rfl
  | w :: ws, [], l, k, f => by simp only [boxesK]; unfold lastB; split <;> rfl
  | w :: ws, c :: cs, l, k, f => by
    simp only [boxesK]
    unfold headB
    split
    · rw [boxK_bind]
      congr 1
      funext v'
      exact boxesK_bind ws cs _ _ f
    · rfl
theorem atSV_bind (cs : List (SV m)) (p : Nat) (k : (SV m) → Option α) (f : α → Option β) : (atSV cs p k).bind f = atSV cs p fun n => (k n).bind f := by unfold atSV; split <;> rfl
theorem dropK_bind (P : Program) (t : TypeId) (c : (SV m)) (k : (SV m) → Option α) (f : α → Option β) : (dropK P t c k).bind f = dropK P t c fun n => (k n).bind f := by
  unfold dropK; split
  · exact cast1K_bind P false t _ k f
  · rfl
theorem svRawK_bind (e : TypeId) (v : (SV m)) (k : List (List (Leaf m)) → Option α) (f : α → Option β) : (svRawK e v k).bind f = svRawK e v fun n => (k n).bind f := by
  unfold svRawK; split
  · split <;> rfl
  · rfl
theorem svBslK_bind (i z : Nat) (v : (SV m)) (k : Nat → Nat → Option α) (f : α → Option β) : (svBslK i z v k).bind f = svBslK i z v fun a n => (k a n).bind f := by
  unfold svBslK; split
  · split <;> rfl
  · rfl
theorem resK_bind (P : Program) (own : Bool) (rk : Nat) (dst : Option Tmp) (t : TypeId) (v : (SV m)) (k : (SV m) → Option α) (f : α → Option β) : (resK P own rk dst t v k).bind f = resK P own rk dst t v fun n => (k n).bind f := by
  unfold resK; split
  · split
    · rfl
    · exact castK_bind P own t v k f
  · rw [Option.bind_assoc]; congr 1; funext e; exact svRawK_bind _ _ _ _
  · exact svBslK_bind _ _ _ _ _
variable {P : Program} {D : (Oracle m)}
theorem call2K_bind (s : (St m)) (own pu : Bool) (rk : Nat) (g : FuncId) (args : List (SV m)) (dst : Option Tmp) (t : TypeId) (k : (St m) → Option α) (f : α → Option β) : (call2K P D s own pu rk g args dst t k).bind f = call2K P D s own pu rk g args dst t fun n => (k n).bind f := by
  unfold call2K
  rw [guarded_bind]
  congr 1
  split
  · rw [guarded_bind, Option.bind_assoc]
    congr 1
    congr 1
    funext r
    exact resK_bind _ _ _ _ _ _ _ _
  · rw [Option.bind_assoc]
    congr 1
    funext cs
    rw [guarded_bind, Option.bind_assoc]
    congr 1
    congr 1
    funext r
    rw [boxesK_bind]
    congr 1
    funext bs
    exact resK_bind _ _ _ _ _ _ _ _
theorem exec_bind {nt : Nat} {mv pu ta : Bool} {o : Oper} {s : (St m)} (k : (St m) → Option α) (f : α → Option β) : (execK P D nt mv pu ta o s k).bind f = execK P D nt mv pu ta o s fun n => (k n).bind f := by
  rw [exec_eff, exec_eff, Option.bind_assoc]
theorem g_bind (x : Option (Bool × (SV m))) (k : (SV m) → Option α) (f : α → Option β) : (x.bind fun p => guarded p.1 (k p.2)).bind f = x.bind fun p => guarded p.1 ((k p.2).bind f) := by
  rw [Option.bind_assoc]; congr 1; funext p; exact guarded_bind _ _ _
theorem exec2_bind {nt : Nat} {mv pu ta : Bool} {rk : Nat} {o : Oper} {s : (St m)} (k : (St m) → Option α) (f : α → Option β) : (exec2K P D nt mv pu ta rk o s k).bind f = exec2K P D nt mv pu ta rk o s fun n => (k n).bind f := by
  cases hop : o.op
  case pick c x z =>
    simp only [exec2K, hop]
    rw [onBool_bind]
    congr 1
    funext b
    rw [branch_bind]
  case load t x =>
    simp only [exec2K, hop]
    split
    · exact partK_bind P t _ _ _ f
    · split
      · rw [Option.bind_assoc]
        congr 1
        funext cs
        rw [atSV_bind]
        congr 1
        funext c
        exact dropK_bind P t c _ f
      · rw [Option.bind_assoc]
        congr 1
        funext cs
        rw [Option.bind_assoc]
        congr 1
        funext n
        rw [guarded_bind]
        unfold rowK
        rw [Option.bind_assoc]
        congr 2
        funext e
        exact partK_bind P t e 0 _ f
      · exact exec_bind k f
    · exact exec_bind k f
  case store t x y =>
    simp only [exec2K, hop]
    split
    · rw [Option.bind_assoc]
      congr 1
      funext cs
      rw [Option.bind_assoc]
      congr 1
      funext n
      rw [guarded_bind, guarded_bind]
    · exact exec_bind k f
  case makeSlice t l c =>
    simp only [exec2K, hop]
    split
    · split
      · rw [guarded_bind, Option.bind_assoc]
        congr 1
        congr 1
        funext p
        exact guarded_bind _ _ _
      · rfl
    · rfl
  case binOp op t x z u => simp only [exec2K, hop]; exact g_bind _ (fun v => k (s.put o.dst v)) f
  case convert src dst x => simp only [exec2K, hop]; exact g_bind _ (fun v => k (s.put o.dst v)) f
  case slice t x lo hi mx =>
    cases mx with
    | some m => simp only [exec2K, hop]; exact exec_bind k f
    | none =>
      simp only [exec2K, hop]
      rw [Option.bind_assoc]; congr 1; funext l
      rw [Option.bind_assoc]; congr 1; funext h
      rw [Option.bind_assoc]; congr 1; funext p
      exact guarded_bind _ _ _
  case indexAddr t x i => simp only [exec2K, hop]; exact g_bind _ (fun v => k (s.put o.dst v)) f
  case index t x i => simp only [exec2K, hop]; exact g_bind _ (fun v => k (s.put o.dst v)) f
  case call c =>
    cases hc : c.callee with
    | invoke r m => simp only [exec2K, hop, hc]; exact exec_bind k f
    | value g =>
      simp only [exec2K, hop, hc]
      split
      · rw [guarded_bind, call2K_bind]
      · rfl
    | builtin b =>
      cases b
      case append =>
        simp only [exec2K, hop, hc]
        split
        · rename_i x z _
          exact g_bind _ (fun v => k ((s.take x).put o.dst v)) f
        · rfl
      case clear =>
        simp only [exec2K, hop, hc]
        split
        · split
          · rw [Option.bind_assoc]; congr 1; funext cs
            rw [Option.bind_assoc]; congr 1; funext t
            rw [Option.bind_assoc]; congr 1; funext e
            rw [Option.bind_assoc]; congr 1; funext ze
            rw [guarded_bind, guarded_bind]
          · rfl
        · rfl
      all_goals (simp only [exec2K, hop, hc]; exact exec_bind k f)
  all_goals (simp only [exec2K, hop]; exact exec_bind k f)
theorem step2_bind {nt : Nat} {mv pu ta : Bool} {rk : Nat} {ops : Array Oper} {o : Oper} {s : (St m)} (k : (St m) → Option α) (f : α → Option β) : (step2K P D nt mv pu ta rk ops o s k).bind f = step2K P D nt mv pu ta rk ops o s fun n => (k n).bind f := by
  unfold step2K
  split
  · exact exec2_bind k f
  · split
    · unfold guard2
      split
      · rw [branch_bind, exec2_bind]
      · rfl
      · rfl
    · rfl
theorem steps2_bind {nt : Nat} {mv pu ta : Nat → Bool} {rk : Nat → Nat} {ops : Array Oper} : ∀ (l : List Oper) (i : Nat) (s : (St m)) (k : (St m) → Option α) (f : α → Option β), (steps2K P D nt mv pu ta rk ops l i s k).bind f = steps2K P D nt mv pu ta rk ops l i s fun n => (k n).bind f
  | [], i, s, k, f => rfl
  | o :: l, i, s, k, f => by
    simp only [steps2K]
    rw [step2_bind]
    congr 1
    funext s'
    exact steps2_bind l (i + 1) s' k f
end
theorem code2_bind {P : Program} {D : (Oracle m)} {H : Hints} {loop : ((St m) → Option (Out m)) → ((St m) → Option (St m)) → (St m) → Option (Out m)} : ∀ (c : Code) (blk : Nat) {β γ : Type} (s : (St m)) (k : (Out m) → Option β) (f : β → Option γ), (code2K P D H loop blk c s k).bind f = code2K P D H loop blk c s fun o => (k o).bind f := by
  intro c
  induction c with
  | skip => intro blk β γ s k f; rfl
  | region id ops draw =>
    intro blk β γ s k f
    simp only [code2K, forceSt_eq]
    rw [guarded_bind, steps2_bind]
  | seq a b iha ihb =>
    intro blk β γ s k f
    simp only [code2K]
    rw [iha]
    congr 1
    funext o
    cases o with
    | norm s' => exact ihb blk s' k f
    | exit id s' => rfl
    | ret s' => rfl
  | cond x a b iha ihb =>
    intro blk β γ s k f
    simp only [code2K, forceSt_eq]
    rw [onBool_bind]
    congr 1
    funext t
    rw [branch_bind, iha, ihb]
  | block id a ih =>
    intro blk β γ s k f
    simp only [code2K]
    rw [ih]
    congr 1
    funext o
    cases o with
    | norm s' => rfl
    | exit id' s' => simp only [blockK]; split <;> rfl
    | ret s' => rfl
  | loop a ih => intro blk β γ s k f; simp only [code2K]; rw [Option.bind_assoc]
  | exit id => intro blk β γ s k f; rfl
  | ret => intro blk β γ s k f; rfl
  | _ => intro blk β γ s k f; rfl
def loopK (ts bs : List Nat) (L : (St m) → Option (Out m)) : (Out m) → Option (Out m)
  | .norm s => (s.again ts bs).bind L
  | .exit id s => some (.exit id s)
  | .ret s => some (.ret s)
def roundV (P : Program) (D : (Oracle m)) (H : Hints) (loop : ((St m) → Option (Out m)) → ((St m) → Option (St m)) → (St m) → Option (Out m)) (blk : Nat) (c : Code) (L : (St m) → Option (Out m)) (s : (St m)) : Option (Out m) :=
  (s.again (H.clear blk) (H.drop blk)).bind fun s => code2K P D H loop blk c s (loopK (H.clear blk) (H.drop blk) L)
noncomputable def loopV (P : Program) (D : (Oracle m)) (H : Hints) (blk : Nat) (c : Code) : (St m) → Option (Out m) := limR (fun s => code2K P D H limR blk c s some) (fun s => s.again (H.clear blk) (H.drop blk))
theorem foldl_set_idem {α : Type} (x : α) (ts : List Nat) : ∀ (l : List α), (∀ t ∈ ts, l[t]? = none ∨ l[t]? = some x) → ts.foldl (fun l t => l.set t x) l = l := by
  induction ts with
  | nil => intro l _; rfl
  | cons t ts ih =>
    intro l h
    have h0 : l.set t x = l := by
      rcases h t (by simp) with h | h
      · rw [List.set_eq_of_length_le (by simpa using h)]
      · apply List.ext_getElem?
        intro i
        by_cases hi : t = i
        · subst hi
          rw [List.getElem?_set_self (List.getElem?_eq_some_iff.1 h).1, h]
        · rw [List.getElem?_set_ne hi]
    rw [List.foldl_cons, h0]
    exact ih l fun u hu => h u (by simp [hu])
theorem foldl_set_get {α : Type} (x : α) (ts : List Nat) : ∀ (l : List α), ∀ t ∈ ts, (ts.foldl (fun l t => l.set t x) l)[t]? = none ∨ (ts.foldl (fun l t => l.set t x) l)[t]? = some x := by
  have keep : ∀ (ts : List Nat) (l : List α) (t : Nat), (l[t]? = none ∨ l[t]? = some x) → ((ts.foldl (fun l t => l.set t x) l)[t]? = none ∨ (ts.foldl (fun l t => l.set t x) l)[t]? = some x) := by
    intro ts
    induction ts with
    | nil => intro l t h; exact h
    | cons u ts ih =>
      intro l t h
      rw [List.foldl_cons]
      refine ih _ t ?_
      by_cases hu : u = t
      · subst hu
        by_cases hl : u < l.length
        · right; exact List.getElem?_set_self hl
        · left; exact List.getElem?_eq_none (by simpa using hl)
      · rw [List.getElem?_set_ne hu]; exact h
  induction ts with
  | nil => intro l t h; simp at h
  | cons u ts ih =>
    intro l t ht
    rw [List.foldl_cons]
    by_cases h : t ∈ ts
    · exact ih _ t h
    · have : t = u := by
        rcases List.mem_cons.1 ht with h' | h'
        · exact h'
        · exact absurd h' h
      subst this
      refine keep ts _ t ?_
      by_cases hl : t < l.length
      · right; exact List.getElem?_set_self hl
      · left; exact List.getElem?_eq_none (by simpa using hl)
theorem forget_idem (s : (St m)) (ts bs : List Nat) : (s.forget ts bs).forget ts bs = s.forget ts bs := by
  unfold St.forget
  congr 1
  · exact foldl_set_idem _ _ _ (foldl_set_get _ _ _)
  · exact foldl_set_idem _ _ _ (foldl_set_get _ _ _)
theorem again_idem {s c : (St m)} {ts bs : List Nat} (h : s.again ts bs = some c) : c.again ts bs = some c := by
  unfold St.again at h ⊢
  obtain ⟨h1, h2⟩ := guarded_eq h
  simp only [Option.some.injEq] at h2
  subst h2
  rw [forget_idem, h1]
  rfl
theorem loopV_again (P : Program) (D : (Oracle m)) (H : Hints) (blk : Nat) (c : Code) (s : (St m)) : loopV P D H blk c s = (s.again (H.clear blk) (H.drop blk)).bind (loopV P D H blk c) := by
  unfold loopV
  rw [limR_open]
  cases h : s.again (H.clear blk) (H.drop blk) with
  | none => rfl
  | some c' =>
    simp only [Option.bind_some]
    rw [limR_open _ _ c', again_idem h]
    rfl
theorem loopV_open (P : Program) (D : (Oracle m)) (H : Hints) (blk : Nat) (c : Code) (s : (St m)) : loopV P D H blk c s = roundV P D H limR blk c (loopV P D H blk c) s := by
  show limR _ _ s = _
  rw [limR_open]
  unfold roundV
  congr 1
  funext s'
  rw [code2_bind]
  congr 1
  funext o
  cases o with
  | norm s2 => exact loopV_again P D H blk c s2
  | exit id s2 => rfl
  | ret s2 => rfl
end Go.Vs
end
section
namespace Go.Vs
variable {m : Bool}
def blkAt : Nat → Code → List Nat → Nat
  | b, _, [] => b
  | b, .seq x y, n :: r => if n = 0 then blkAt b x r else blkAt b y r
  | b, .cond _ x y, n :: r => if n = 0 then blkAt b x r else blkAt b y r
  | _, .block id x, _ :: r => blkAt id x r
  | b, .loop x, _ :: r => blkAt b x r
  | b, _, _ => b
def againK {β : Type} (s : St m) (ts bs : List Nat) (k : (St m) → Option β) : Option β := guarded ((s.forget ts bs).noBox bs) (k (s.forget ts bs))
theorem again_bind {β : Type} (s : St m) (ts bs : List Nat) (k : (St m) → Option β) : (s.again ts bs).bind k = againK s ts bs k := by
  unfold St.again againK
  cases (s.forget ts bs).noBox bs <;> rfl
def loopK2 {β : Type} (ts bs : List Nat) (L : (St m) → Option β) (k : (Out m) → Option β) : (Out m) → Option β
  | .norm s => againK s ts bs L
  | .exit id s => k (.exit id s)
  | .ret s => k (.ret s)
noncomputable def contK {β : Type} (P : Program) (D : (Oracle m)) (H : Hints) : Nat → Code → List Nat → ((Out m) → Option β) → (Out m) → Option β
  | _, _, [], k => k
  | b, .seq x y, n :: r, k => if n = 0 then contK P D H b x r (seqK (fun s => code2K P D H limR b y s k) k) else contK P D H b y r k
  | b, .cond _ x y, n :: r, k => if n = 0 then contK P D H b x r k else contK P D H b y r k
  | _, .block id x, _ :: r, k => contK P D H id x r (blockK id k)
  | b, .loop x, _ :: r, k => contK P D H b x r (loopK2 (H.clear b) (H.drop b) (fun s => code2K P D H limR b (.loop x) s k) k)
  | _, _, _, k => k
noncomputable def atF (P : Program) (D : (Oracle m)) (H : FuncId → Hints) (f : FuncId) (p : List Nat) (n : Nat) (s : (St m)) : Option ((SV m) × List (List (SV m))) :=
  code2K P D ((H f).fit (fnOf P f).ntmps) limR (blkAt 0 (bodyOf P f) p) (sub (bodyOf P f) p) s (contK P D ((H f).fit (fnOf P f).ntmps) 0 (bodyOf P f) p (endK2 P (fnOf P f) n))
theorem loop_open {β : Type} (P : Program) (D : (Oracle m)) (H : Hints) (b : Nat) (c : Code) (s : (St m)) (k : (Out m) → Option β) :
    code2K P D H limR b (.loop c) s k = (s.again (H.clear b) (H.drop b)).bind fun s => code2K P D H limR b c s (loopK2 (H.clear b) (H.drop b) (fun s => code2K P D H limR b (.loop c) s k) k) := by
  have h0 : ∀ s, code2K P D H limR b (.loop c) s k = (loopV P D H b c s).bind k := fun s => rfl
  rw [h0, loopV_open]
  unfold roundV
  rw [Option.bind_assoc]
  congr 1
  funext s'
  rw [code2_bind]
  congr 1
  funext o
  cases o with
  | norm s2 =>
    simp only [loopK, loopK2, ← again_bind, Option.bind_assoc]
    congr 1
  | exit id s2 => rfl
  | ret s2 => rfl
theorem atF_loop {P : Program} {D : (Oracle m)} {H : FuncId → Hints} {f : FuncId} {p : List Nat} {c : Code} (hc : sub (bodyOf P f) p = .loop c) (n : Nat) (s : (St m)) :
    atF P D H f p n s = (s.again (((H f).fit (fnOf P f).ntmps).clear (blkAt 0 (bodyOf P f) p)) (((H f).fit (fnOf P f).ntmps).drop (blkAt 0 (bodyOf P f) p))).bind fun s =>
      code2K P D ((H f).fit (fnOf P f).ntmps) limR (blkAt 0 (bodyOf P f) p) c s (loopK2 (((H f).fit (fnOf P f).ntmps).clear (blkAt 0 (bodyOf P f) p)) (((H f).fit (fnOf P f).ntmps).drop (blkAt 0 (bodyOf P f) p))
        (fun s => code2K P D ((H f).fit (fnOf P f).ntmps) limR (blkAt 0 (bodyOf P f) p) (.loop c) s (contK P D ((H f).fit (fnOf P f).ntmps) 0 (bodyOf P f) p (endK2 P (fnOf P f) n))) (contK P D ((H f).fit (fnOf P f).ntmps) 0 (bodyOf P f) p (endK2 P (fnOf P f) n))) := by
  unfold atF
  rw [hc]
  exact loop_open _ _ _ _ _ _ _
end Go.Vs
end
section
namespace Go.Vs
variable {m : Bool}
section
variable {β : Type}
def codeN (P : Program) (D : (Oracle m)) (H : Hints) (nm : List (List Nat)) (J : List Nat × (St m) → Option β) : List Nat → Nat → Code → (St m) → ((Out m) → Option β) → Option β
  | _, _, .skip, s, k => k (.norm s)
  | _, _, .region id ops draw, s, k => guarded (!draw || okRegion (H.mv id) (H.pure id) (H.take id) ops) (steps2K P D H.nt (H.mv id) (H.pure id) (H.take id) (rkOf H id) ops ops.toList 0 s fun s' => forceSt (St.freeze H.nt (s'.tidy (H.after id) (H.afterB id)) (H.fz id)) fun s' => k (.norm s'))
  | r, blk, .seq a b, s, k =>
    if nm.contains (0 :: r).reverse then J ((0 :: r).reverse, s) else codeN P D H nm J (0 :: r) blk a s (seqK (fun s' => if nm.contains (1 :: r).reverse then J ((1 :: r).reverse, s') else codeN P D H nm J (1 :: r) blk b s' k) k)
  | r, blk, .cond c a b, s, k => onBool (s.eval c) fun t => branch t
      (forceSt (s.dropC H.condA c) fun s => if nm.contains (0 :: r).reverse then J ((0 :: r).reverse, s) else codeN P D H nm J (0 :: r) blk a s k)
      (forceSt (s.dropC H.condB c) fun s => if nm.contains (1 :: r).reverse then J ((1 :: r).reverse, s) else codeN P D H nm J (1 :: r) blk b s k)
  | r, _, .block id a, s, k => if nm.contains (0 :: r).reverse then J ((0 :: r).reverse, s) else codeN P D H nm J (0 :: r) id a s (blockK id k)
  | r, blk, .loop a, s, k => againK s (H.clear blk) (H.drop blk) fun s => if nm.contains (0 :: r).reverse then J ((0 :: r).reverse, s) else codeN P D H nm J (0 :: r) blk a s (loopK2 (H.clear blk) (H.drop blk) (fun s => J (r.reverse, s)) k)
  | _, _, .exit id, s, k => k (.exit id s)
  | _, _, .ret, s, k => k (.ret s)
  | _, _, _, _, _ => none
theorem sub_append : ∀ (p : List Nat) (c : Code) (q : List Nat), sub c (p ++ q) = sub (sub c p) q
  | [], c, q => by simp [sub]
  | n :: p, c, q => by
    cases c <;> simp only [List.cons_append, sub]
    case seq a b => split <;> exact sub_append p _ q
    case cond x a b => split <;> exact sub_append p _ q
    case block id a => exact sub_append p _ q
    case loop a => exact sub_append p _ q
    all_goals (cases q <;> rfl)
theorem blkAt_append : ∀ (p : List Nat) (b : Nat) (c : Code) (q : List Nat), blkAt b c (p ++ q) = blkAt (blkAt b c p) (sub c p) q
  | [], b, c, q => by simp [sub, blkAt]
  | n :: p, b, c, q => by
    cases c <;> simp only [List.cons_append, sub, blkAt]
    case seq x y => split <;> exact blkAt_append p _ _ q
    case cond x x y => split <;> exact blkAt_append p _ _ q
    case block id x => exact blkAt_append p _ _ q
    case loop x => exact blkAt_append p _ _ q
    all_goals (cases q <;> rfl)
theorem contK_append (P : Program) (D : (Oracle m)) (H : Hints) : ∀ (p : List Nat) (b : Nat) (c : Code) (q : List Nat) (k : (Out m) → Option β), contK P D H b c (p ++ q) k = contK P D H (blkAt b c p) (sub c p) q (contK P D H b c p k)
  | [], b, c, q, k => by simp [sub, blkAt, contK]
  | n :: p, b, c, q, k => by
    cases c <;> simp only [List.cons_append, sub, blkAt, contK]
    case seq x y => split <;> exact contK_append P D H p _ _ q _
    case cond x x y => split <;> exact contK_append P D H p _ _ q _
    case block id x => exact contK_append P D H p _ _ q _
    case loop x => exact contK_append P D H p _ _ q _
    all_goals (cases q <;> rfl)
theorem codeN_eq {P : Program} {D : (Oracle m)} {H : Hints} {nm : List (List Nat)} {J : List Nat × (St m) → Option β} {root : Code} {kE : (Out m) → Option β}
    (hJ : ∀ p s, J (p, s) = code2K P D H limR (blkAt 0 root p) (sub root p) s (contK P D H 0 root p kE)) :
    ∀ (c : Code) (r : List Nat) (blk : Nat) (s : (St m)) (k : (Out m) → Option β), sub root r.reverse = c → blkAt 0 root r.reverse = blk → contK P D H 0 root r.reverse kE = k → codeN P D H nm J r blk c s k = code2K P D H limR blk c s k := by
  intro c
  induction c with
  | skip => intro r blk s k _ _ _; rfl
  | region id ops draw => intro r blk s k _ _ _; rfl
  | seq a b iha ihb =>
    intro r blk s k hc hb hk
    have ha0 : sub root (0 :: r).reverse = a := by rw [List.reverse_cons, sub_append, hc]; simp [sub]
    have ha1 : blkAt 0 root (0 :: r).reverse = blk := by rw [List.reverse_cons, blkAt_append, hc, hb]; simp [blkAt]
    have ha2 : contK P D H 0 root (0 :: r).reverse kE = seqK (fun s => code2K P D H limR blk b s k) k := by rw [List.reverse_cons, contK_append, hc, hb, hk]; simp [contK]
    have hb0 : sub root (1 :: r).reverse = b := by rw [List.reverse_cons, sub_append, hc]; simp [sub]
    have hb1 : blkAt 0 root (1 :: r).reverse = blk := by rw [List.reverse_cons, blkAt_append, hc, hb]; simp [blkAt]
    have hb2 : contK P D H 0 root (1 :: r).reverse kE = k := by rw [List.reverse_cons, contK_append, hc, hb, hk]; simp [contK]
    have eb : (fun s' => if nm.contains (1 :: r).reverse then J ((1 :: r).reverse, s') else codeN P D H nm J (1 :: r) blk b s' k) = fun s' => code2K P D H limR blk b s' k := by
      funext s'
      split
      · rw [hJ, hb0, hb1, hb2]
      · exact ihb _ _ _ _ hb0 hb1 hb2
    simp only [codeN, code2K]
    rw [eb]
    split
    · rw [hJ, ha0, ha1, ha2]
    · exact iha _ _ _ _ ha0 ha1 ha2
  | cond x a b iha ihb =>
    intro r blk s k hc hb hk
    have ha0 : sub root (0 :: r).reverse = a := by rw [List.reverse_cons, sub_append, hc]; simp [sub]
    have ha1 : blkAt 0 root (0 :: r).reverse = blk := by rw [List.reverse_cons, blkAt_append, hc, hb]; simp [blkAt]
    have ha2 : contK P D H 0 root (0 :: r).reverse kE = k := by rw [List.reverse_cons, contK_append, hc, hb, hk]; simp [contK]
    have hb0 : sub root (1 :: r).reverse = b := by rw [List.reverse_cons, sub_append, hc]; simp [sub]
    have hb1 : blkAt 0 root (1 :: r).reverse = blk := by rw [List.reverse_cons, blkAt_append, hc, hb]; simp [blkAt]
    have hb2 : contK P D H 0 root (1 :: r).reverse kE = k := by rw [List.reverse_cons, contK_append, hc, hb, hk]; simp [contK]
    simp only [codeN, code2K, forceSt_eq]
    congr 1
    funext t
    congr 1
    · split
      · rw [hJ, ha0, ha1, ha2]
      · exact iha _ _ _ _ ha0 ha1 ha2
    · split
      · rw [hJ, hb0, hb1, hb2]
      · exact ihb _ _ _ _ hb0 hb1 hb2
  | block id a ih =>
    intro r blk s k hc hb hk
    have ha0 : sub root (0 :: r).reverse = a := by rw [List.reverse_cons, sub_append, hc]; simp [sub]
    have ha1 : blkAt 0 root (0 :: r).reverse = id := by rw [List.reverse_cons, blkAt_append, hc, hb]; simp [blkAt]
    have ha2 : contK P D H 0 root (0 :: r).reverse kE = blockK id k := by rw [List.reverse_cons, contK_append, hc, hb, hk]; simp [contK]
    simp only [codeN, code2K]
    split
    · rw [hJ, ha0, ha1, ha2]
    · exact ih _ _ _ _ ha0 ha1 ha2
  | loop a ih =>
    intro r blk s k hc hb hk
    have ha0 : sub root (0 :: r).reverse = a := by rw [List.reverse_cons, sub_append, hc]; simp [sub]
    have ha1 : blkAt 0 root (0 :: r).reverse = blk := by rw [List.reverse_cons, blkAt_append, hc, hb]; simp [blkAt]
    have eL : (fun s => J (r.reverse, s)) = fun s => code2K P D H limR blk (.loop a) s k := by funext s'; rw [hJ, hc, hb, hk]
    have ha2 : contK P D H 0 root (0 :: r).reverse kE = loopK2 (H.clear blk) (H.drop blk) (fun s => code2K P D H limR blk (.loop a) s k) k := by rw [List.reverse_cons, contK_append, hc, hb, hk]; simp [contK]
    simp only [codeN]
    rw [loop_open, again_bind, eL]
    unfold againK
    congr 1
    simp only
    split
    · rw [hJ, ha0, ha1, ha2]
    · exact ih _ _ _ _ ha0 ha1 ha2
  | exit id => intro r blk s k _ _ _; rfl
  | ret => intro r blk s k _ _ _; rfl
  | _ => intro r blk s k _ _ _; rfl
end
noncomputable def contN {β : Type} (P : Program) (D : (Oracle m)) (H : Hints) (nm : List (List Nat)) (J : List Nat × (St m) → Option β) : List Nat → Nat → Code → List Nat → ((Out m) → Option β) → (Out m) → Option β
  | _, _, _, [], k => k
  | r, b, .seq x y, n :: p, k => if n = 0 then contN P D H nm J (n :: r) b x p (seqK (fun s => if nm.contains (1 :: r).reverse then J ((1 :: r).reverse, s) else codeN P D H nm J (1 :: r) b y s k) k) else contN P D H nm J (n :: r) b y p k
  | r, b, .cond _ x y, n :: p, k => if n = 0 then contN P D H nm J (n :: r) b x p k else contN P D H nm J (n :: r) b y p k
  | r, _, .block id x, n :: p, k => contN P D H nm J (n :: r) id x p (blockK id k)
  | r, b, .loop x, n :: p, k => contN P D H nm J (n :: r) b x p (loopK2 (H.clear b) (H.drop b) (fun s => J (r.reverse, s)) k)
  | _, _, _, _, k => k
theorem contN_eq {β : Type} {P : Program} {D : (Oracle m)} {H : Hints} {nm : List (List Nat)} {J : List Nat × (St m) → Option β} {root : Code} {kE : (Out m) → Option β}
    (hJ : ∀ p s, J (p, s) = code2K P D H limR (blkAt 0 root p) (sub root p) s (contK P D H 0 root p kE)) :
    ∀ (p : List Nat) (c : Code) (r : List Nat) (blk : Nat) (k : (Out m) → Option β), sub root r.reverse = c → blkAt 0 root r.reverse = blk → contK P D H 0 root r.reverse kE = k → contN P D H nm J r blk c p k = contK P D H blk c p k := by
  intro p
  induction p with
  | nil => intro c r blk k _ _ _; simp [contN, contK]
  | cons n p ih =>
    intro c r blk k hc hb hk
    have hs : ∀ n, sub root (n :: r).reverse = sub c [n] := fun n => by rw [List.reverse_cons, sub_append, hc]
    have hbl : ∀ n, blkAt 0 root (n :: r).reverse = blkAt blk c [n] := fun n => by rw [List.reverse_cons, blkAt_append, hc, hb]
    have hkk : ∀ n, contK P D H 0 root (n :: r).reverse kE = contK P D H blk c [n] k := fun n => by rw [List.reverse_cons, contK_append, hc, hb, hk]
    cases c with
    | seq x y =>
      have hb0 : sub root (1 :: r).reverse = y := by rw [hs]; simp [sub]
      have hb1 : blkAt 0 root (1 :: r).reverse = blk := by rw [hbl]; simp [blkAt]
      have hb2 : contK P D H 0 root (1 :: r).reverse kE = k := by rw [hkk]; simp [contK]
      have eb : (fun s => if nm.contains (1 :: r).reverse then J ((1 :: r).reverse, s) else codeN P D H nm J (1 :: r) blk y s k) = fun s => code2K P D H limR blk y s k := by
        funext s'
        split
        · rw [hJ, hb0, hb1, hb2]
        · exact codeN_eq hJ _ _ _ _ _ hb0 hb1 hb2
      simp only [contN, contK]
      rw [eb]
      by_cases hn : n = 0
      · subst hn
        simp only [if_true]
        exact ih _ _ _ _ (by rw [hs]; simp [sub]) (by rw [hbl]; simp [blkAt]) (by rw [hkk]; simp [contK])
      · simp only [hn, if_false]
        exact ih _ _ _ _ (by rw [hs]; simp [sub, hn]) (by rw [hbl]; simp [blkAt, hn]) (by rw [hkk]; simp [contK, hn])
    | cond z x y =>
      simp only [contN, contK]
      by_cases hn : n = 0
      · subst hn
        simp only [if_true]
        exact ih _ _ _ _ (by rw [hs]; simp [sub]) (by rw [hbl]; simp [blkAt]) (by rw [hkk]; simp [contK])
      · simp only [hn, if_false]
        exact ih _ _ _ _ (by rw [hs]; simp [sub, hn]) (by rw [hbl]; simp [blkAt, hn]) (by rw [hkk]; simp [contK, hn])
    | block id x =>
      simp only [contN, contK]
      exact ih _ _ _ _ (by rw [hs]; simp [sub]) (by rw [hbl]; simp [blkAt]) (by rw [hkk]; simp [contK])
    | loop x =>
      have eL : (fun s => J (r.reverse, s)) = fun s => code2K P D H limR blk (.loop x) s k := by funext s'; rw [hJ, hc, hb, hk]
      simp only [contN, contK]
      rw [eL]
      exact ih _ _ _ _ (by rw [hs]; simp [sub]) (by rw [hbl]; simp [blkAt]) (by rw [hkk]; simp [contK])
    | _ => simp [contN, contK]
noncomputable def nameF (P : Program) (D : (Oracle m)) (H : FuncId → Hints) (f : FuncId) (nm : List (List Nat)) (n : Nat) (J : List Nat × (St m) → Option ((SV m) × List (List (SV m)))) (x : List Nat × (St m)) : Option ((SV m) × List (List (SV m))) :=
  codeN P D ((H f).fit (fnOf P f).ntmps) nm J x.1.reverse (blkAt 0 (bodyOf P f) x.1) (sub (bodyOf P f) x.1) x.2 (contN P D ((H f).fit (fnOf P f).ntmps) nm J [] 0 (bodyOf P f) x.1 (endK2 P (fnOf P f) n))
theorem nameF_eq {P : Program} {D : (Oracle m)} {H : FuncId → Hints} {f : FuncId} {n : Nat} {J : List Nat × (St m) → Option ((SV m) × List (List (SV m)))} (hJ : ∀ p s, J (p, s) = atF P D H f p n s) (nm : List (List Nat)) (x : List Nat × (St m)) :
    J x = nameF P D H f nm n J x := by
  obtain ⟨p, s⟩ := x
  rw [hJ]
  unfold nameF atF
  rw [contN_eq (root := bodyOf P f) (fun p s => hJ p s) _ _ _ _ _ (by simp [sub]) (by simp [blkAt]) (by simp [contK])]
  exact (codeN_eq (root := bodyOf P f) (fun p s => hJ p s) _ _ _ _ _ (by simp) (by simp) (by simp)).symm
end Go.Vs
namespace Go.Vs
theorem run_names {m : Bool} {P : Program} {D : (Oracle m)} {H : FuncId → Hints} {f : FuncId} {args : List (SV m)} {boxes : List (List (SV m))} {J : List Nat × (St m) → Option ((SV m) × List (List (SV m)))}
    {nb : Nat} (hb : ((P.funcs[f]?).bind (·.body)).isSome = true) (hJ : ∀ p s, J (p, s) = atF P D H f p nb s) (nm : List (List Nat)) (hnb : boxes.length = nb := by rfl) :
    run2V P D H limR f args boxes = nameF P D H f nm nb J ([], St.freeze (fnOf P f).ntmps (enterV (fnOf P f) args boxes) ((H f).fz 1048576)) := by
  subst hnb
  rw [← nameF_eq hJ, hJ]
  unfold run2V atF fnOf bodyOf
  cases hfn : P.funcs[f]? with
  | none => rw [hfn] at hb; simp at hb
  | some fn =>
    rw [hfn] at hb
    simp only [Option.bind_some] at hb
    cases hc : fn.body with
    | none => rw [hc] at hb; simp at hb
    | some c => simp [sub, blkAt, contK, hc]
def anyS {m : Bool} (n : Nat) : List (SV m) := List.replicate n .any
def noB {m : Bool} (n : Nat) : List (Option (List (SV m))) := List.replicate n none
end Go.Vs
end
section
namespace Go.Vs
namespace F
abbrev laws_FnExactOfClass := 3
abbrev laws_szChangeS := 4
abbrev spec_OfClass := 5
abbrev laws_toChangeS := 6
abbrev impl_OfClass := 7
abbrev laws_eqChangeS := 8
abbrev laws_markChangeS := 9
abbrev laws_heldChangeS := 10
abbrev laws_szChange := 11
abbrev spec_ClassOf := 12
abbrev laws_toChange := 13
abbrev slices_DeleteFunc_S_impl_Change_impl_Change := 14
abbrev slices_Clone_S_impl_Change_impl_Change := 15
abbrev impl_OfClass_1 := 16
abbrev impl_ClassOf := 17
abbrev laws_eqChange := 18
abbrev laws_markText := 19
abbrev spec_l01In := 20
abbrev slices_IndexFunc_S_impl_Change_impl_Change := 21
abbrev impl_in := 22
end F
namespace T
abbrev impl_Change := 34
end T
end Go.Vs
end
section
open Go Go.Vs Go.Proofs
namespace Go.Vs
def Hs : FuncId → Hints := fun f => match f with
  | 3 => Tab.hints ⟨[[],[],[],[],[],[3,4],[2],[3],[],[],[],[],[],[0],[],[],[],[],[],[],[],[],[],[],[0,4],[0,1],[],[],[0]],[[],[],[],[],[],[],[],[],[],[],[],[],[],[2],[],[],[],[2],[],[2],[],[],[],[],[],[],[],[],[2]],[],[],[],[[4],[],[13,14,15],[5,16],[],[18,19,20,21],[22,23],[24,25,26],[27,28,29],[],[31,32,33,34],[],[],[7,36,37,38],[9,39,40,41,42,43,44,45],[],[],[47,48,49],[],[50,51,52],[53],[],[11,55,56],[],[0,1,58,59,60,61],[6,12,62,63,64],[],[],[8,66,67,68],[69],[],[10,11,71,72]],[],[(17,[17,0,1],[]),(30,[30,7,8,6,1,0],[]),(35,[35,0,1,6,8,7],[]),(46,[46,8,6,1,0],[]),(54,[54,0,1,6,10,8,11],[]),(57,[57,8,10,6,1,0],[]),(65,[65,10,8],[]),(70,[70,10,11],[]),(73,[73],[])],[(17,[17],[]),(30,[30],[]),(35,[35],[]),(46,[46],[]),(54,[54],[]),(57,[57],[]),(65,[65],[]),(70,[70],[]),(73,[73],[])],[]⟩
  | 4 => Tab.hints ⟨[],[],[],[(0,[2,3,4,6,7,8,9,10,11,12,13,14,15,16,17,18,19,20,21,22,23,24,25,26])],[],[[4],[6,7,8,9],[10],[],[],[12,13,14],[16,17],[18,19,20,21,22,23],[24],[],[1,26]],[],[(11,[11,0,1],[]),(15,[15],[]),(25,[25,0,1,5],[])],[(11,[11],[]),(15,[15,0,5],[]),(25,[25],[])],[]⟩
  | 5 => Tab.hints ⟨[[0],[1],[],[],[],[],[0,7],[0,1]],[],[],[(0,[2,3,4,7,8,9,10,11,12,13,14,15,16,17,18,19,20,21,22,23,24,25,26,27,28,29])],[],[[4],[7],[],[8,9,10],[12,13],[14,15,16,17,18,19,20],[22,23,24,25,26,27,28],[5,29]],[],[(11,[11],[]),(21,[21],[])],[(11,[11,6,0,1],[]),(21,[21],[])],[]⟩
  | 6 => Tab.hints ⟨[[0],[3],[],[],[],[],[0,1]],[],[],[(0,[1,2,5,6,7,8,9,10,11,12,13,14,15,16,17,18,19,20,21,22])],[],[[2],[5,6,7],[],[8,9,10],[12,13],[14,15,16,17,18,19,20,21],[3,22]],[[],[7]],[(11,[11],[])],[(11,[11,4,0],[])],[]⟩
  | 7 => Tab.hints ⟨[[1],[0,1,4]],[[],[3]],[[],[3]],[],[],[[1,4],[0,3,5,6,7,8]],[[],[3]],[],[],[(1048578,[4097])]⟩
  | 8 => Tab.hints ⟨[],[],[],[(0,[2,3,4,6,7,8,9,10,11,12,13,14,15,16,17,18,19,20,21,22,23,24,25,26])],[],[[4],[6,7,8,9],[],[],[11,12,13],[15,16],[17,18,19,20,21,22,23,24,25]],[],[(10,[10,0,1],[]),(14,[14],[]),(26,[26,0,1,5],[])],[(10,[10],[]),(14,[14,0,1,5],[]),(26,[26],[])],[]⟩
  | 9 => Tab.hints ⟨[],[],[],[(0,[2,3,4,6,7,8,9,10,11,12,13,14,15,16,17,18,19,20,21,22,23,24,25,26,27,28,29,30,31,32,33,34,35])],[],[[4],[],[6,7,8],[10,11],[12,13,14,15,16],[17,18],[19,20,21,22,23,24],[25,26],[27,28,29,30,31,32],[33,34],[1,35]],[],[(9,[9],[])],[(9,[9,5,0],[])],[]⟩
  | 10 => Tab.hints ⟨[],[],[],[(0,[2,3,4,6,7,8,9,10,11,12,13,14,15,16,17,18,19,20,21,22,23,24,25,26,27,28,29,30,31,32,33,34,35,36,37,38,39,40,41])],[],[[4],[],[6,7,8],[10,11],[12,13,14,15,16,17],[],[19,20],[21,22,23,24,25,26,27],[],[29,30],[31,32,33,34,35,36,37],[],[39,40],[1,41]],[],[(9,[9],[]),(18,[18,0,5,1],[]),(28,[28,5,0,1],[]),(38,[38,0,5,1],[])],[(9,[9,0,5],[]),(18,[18],[]),(28,[28],[]),(38,[38],[])],[]⟩
  | 11 => Tab.hints ⟨[],[],[],[],[],[[0,4],[5,6,7,8,9],[10],[],[2,12,13,14,15,16],[17],[],[1,19]],[[],[],[],[],[2]],[(11,[11,2,1],[2]),(18,[18,1],[])],[(11,[11],[]),(18,[18],[])],[]⟩
  | 12 => Tab.hints ⟨[],[],[],[],[],[[2],[4,5,6],[],[8,9],[],[0,11,12]],[],[(3,[3,0],[]),(7,[7,0],[]),(10,[10],[])],[(3,[3],[]),(7,[7],[]),(10,[10],[])],[]⟩
  | 13 => Tab.hints ⟨[],[],[],[],[],[[0],[],[4,5,6],[7,8,9],[1,10,11,12],[3,13]],[[],[],[],[],[1],[3]],[],[],[]⟩
  | 14 => Tab.hints ⟨[[0],[],[],[0,1],[],[],[],[],[],[],[],[],[0,3]],[[],[2],[],[],[],[],[],[],[2]],[],[(0,[2,3,4,7,8,9,10,11,12,13,14,15,16,17,18,19,20,21,22,23,24,25,26,27,28,29,30,31,32,33,34,35,36,37,38,39,40,41])],[(0,[7])],[[4],[8,9,10],[11],[0,13],[14,15],[16,17,18],[20,21],[22,23,24,25],[26,27,28],[7,30,31,32,33],[34,35],[36,37,38],[0,5,39,40,41]],[],[(12,[12,1,5],[]),(19,[19],[]),(29,[29],[])],[(12,[12],[]),(19,[19,6,1],[]),(29,[29,7],[])],[(1048576,[24576]),(1048584,[4099])]⟩
  | 17 => Tab.hints ⟨[],[],[],[],[],[[2],[4,5],[],[7,8],[],[0,10,11]],[],[(3,[3,0],[]),(6,[6,0],[]),(9,[9],[])],[(3,[3],[]),(6,[6],[]),(9,[9],[])],[]⟩
  | 18 => Tab.hints ⟨[],[],[],[],[],[[0,1,4],[5,6,7,8],[],[10,11,12,13],[],[2,3,15,16,17,18]],[[],[],[],[],[],[2,3]],[(9,[9,2,3],[2,3]),(14,[14,3,2],[2,3]),(19,[19],[])],[(9,[9],[]),(14,[14],[]),(19,[19],[])],[]⟩
  | 19 => Tab.hints ⟨[],[],[],[(0,[1,2,4,5,6,7,8,9,10,11,12,13,14,15,16,17,18,19])],[],[[2],[4],[],[],[6],[8,9,10,11,12,13,14,15],[16,17],[3,18,19]],[],[(5,[5,0],[]),(7,[7],[])],[(5,[5],[]),(7,[7,0],[])],[]⟩
  | 20 => Tab.hints ⟨[],[],[],[],[],[[6],[0,1,2,7,8,9,10,11,12,13,14]],[],[],[],[]⟩
  | 21 => Tab.hints ⟨[],[[],[],[],[],[5]],[],[(0,[2,3,4,5,6,9,10,11,12,13,14,15,16,17,18])],[],[[4],[6],[],[10],[11,12,13,14,15],[5,17],[18]],[],[(9,[9],[]),(16,[16,7,1,0,8],[])],[(9,[9,7,1,0,8],[]),(16,[16,5],[])],[(1048581,[4100])]⟩
  | 22 => Tab.hints ⟨[],[],[],[],[],[[6],[0,1,2,7,8,9,10,11,12,13,14]],[],[],[],[]⟩
  | _ => Tab.hints noTab
end Go.Vs
end
section
namespace Go.Vs
variable {m : Bool} {β : Type}
@[simp] theorem guarded_true (x : Option β) : guarded true x = x := rfl
@[simp] theorem guarded_false (x : Option β) : guarded false x = none := rfl
@[simp] theorem branch_true (x y : Option β) : branch true x y = x := rfl
@[simp] theorem branch_false (x y : Option β) : branch false x y = y := rfl
theorem branch_ite (b : Bool) (x y : Option β) : branch b x y = if b = true then x else y := by cases b <;> rfl
@[simp] theorem onBool_bool (b : Bool) (k : Bool → Option β) : onBool (.leaf (.bool b) : SV m) k = k b := rfl
@[simp] theorem svLeafK_leaf (l : Leaf m) (k : Leaf m → Option β) : svLeafK (.leaf l) k = k l := rfl
@[simp] theorem svSlK_leaf (c : Fl m) (es : List (List (Leaf m))) (k : Fl m → List (List (Leaf m)) → Option β) : svSlK (.leaf (.sl c es)) k = k c es := rfl
@[simp] theorem svOwnK_own (e : TypeId) (es : List (List (Leaf m))) (k : List (List (Leaf m)) → Option β) : svOwnK e (.own (some e) es) k = k es := by simp [svOwnK]
@[simp] theorem svAggK_agg (cs : List (Leaf m)) (k : List (Leaf m) → Option β) : svAggK (.agg cs) k = k cs := rfl
@[simp] theorem svTupK_tup (vs : List (SV m)) (k : List (SV m) → Option β) : svTupK (.tup vs) k = k vs := rfl
@[simp] theorem svNilK_nil (k : Option β) : svNilK (.nilface : SV m) k = k := rfl
@[simp] theorem intK_int (k0 : IntKind) (n : Int) (k : Int → Option β) : intK k0 (.int k0 n : Leaf m) k = k n := by simp [intK]
@[simp] theorem boolK_bool (b : Bool) (k : Bool → Option β) : boolK (.bool b : Leaf m) k = k b := rfl
@[simp] theorem strK_str (s : ByteArray) (k : ByteArray → Option β) : strK (.str s : Leaf m) k = k s := rfl
@[simp] theorem slK_sl (c : Fl m) (es : List (List (Leaf m))) (k : Fl m → List (List (Leaf m)) → Option β) : slK (.sl c es) k = k c es := rfl
@[simp] theorem atK_zero (l : Leaf m) (e : List (Leaf m)) (k : Leaf m → Option β) : atK (l :: e) 0 k = k l := rfl
@[simp] theorem atK_succ (l : Leaf m) (e : List (Leaf m)) (n : Nat) (k : Leaf m → Option β) : atK (l :: e) (n + 1) k = atK e n k := rfl
@[simp] theorem bindE_eq (e : List (Leaf m)) (k : List (Leaf m) → Option β) : bindE e k = k e := rfl
@[simp] theorem headK_cons (v : SV m) (r : List (SV m)) (k : SV m → List (SV m) → Option β) : headK (v :: r) k = k v r := rfl
@[simp] theorem lastK_nil (k : Option β) : lastK ([] : List (SV m)) k = k := rfl
@[simp] theorem headB_cons (v : List (SV m)) (r : List (List (SV m))) (k : List (SV m) → List (List (SV m)) → Option β) : headB (v :: r) k = k v r := rfl
@[simp] theorem lastB_nil (k : Option β) : lastB ([] : List (List (SV m))) k = k := rfl
@[simp] theorem atSV_zero (l : SV m) (e : List (SV m)) (k : SV m → Option β) : atSV (l :: e) 0 k = k l := rfl
@[simp] theorem atSV_succ (l : SV m) (e : List (SV m)) (n : Nat) (k : SV m → Option β) : atSV (l :: e) (n + 1) k = atSV e n k := rfl
theorem sized_map {α : Type} {n : Nat} {f : α → List (Leaf m)} (h : ∀ a, (f a).length = n) (l : List α) : sized n (l.map f) = true := by simp [sized, h]
theorem getD_map {α : Type} {f : α → List (Leaf m)} {l : List α} {i : Nat} (h : i < l.length) : (l.map f).getD i [] = f l[i] := by simp [List.getD, h]
@[simp] theorem fl_false (a b : Fl false) : (a = b) = True := eq_true (by cases a; cases b; rfl)
theorem wrap64 {z : Int} (h1 : -9223372036854775808 ≤ z) (h2 : z ≤ 9223372036854775807) : IntKind.i64.wrap z = z := by
  have e : IntKind.i64.wrap z = if z % 18446744073709551616 ≥ 9223372036854775808 then z % 18446744073709551616 - 18446744073709551616 else z % 18446744073709551616 := by
    simp [IntKind.wrap, IntKind.signed, IntKind.bits]
  rw [e]
  split <;> omega
theorem wrap_up {i : Nat} (h : i < 4611686018427387904) : IntKind.i64.wrap ((i : Int) + 1) = ((i + 1 : Nat) : Int) := by
  rw [wrap64 (by omega) (by omega)]; rfl
theorem upto_ind {n : Nat} {Q : Nat → Prop} (hn : Q n) (hs : ∀ i, i < n → Q (i + 1) → Q i) : ∀ i, i ≤ n → Q i := by
  intro i hi
  obtain ⟨k, rfl⟩ : ∃ k, n = i + k := ⟨n - i, by omega⟩
  induction k generalizing i with
  | zero => exact hn
  | succ k ih => exact hs i (by omega) (ih (i + 1) (by rw [show i + 1 + k = i + (k + 1) by omega]; exact hn) (by intro j hj; exact hs j (by omega)) (by omega))
def rowAt (l : List (List (Leaf m))) (i : Nat) (z : List (SV m)) : List (SV m) := (l.take i).flatten.map SV.leaf ++ z
theorem flatten_len {α : Type} {z : Nat} : ∀ {l : List (List α)}, (∀ e ∈ l, e.length = z) → l.flatten.length = l.length * z
  | [], _ => by simp
  | e :: l, h => by
    have h1 := h e (by simp)
    have h2 := flatten_len (l := l) (fun e he => h e (by simp [he]))
    rw [List.flatten_cons, List.length_append, h1, h2, List.length_cons, Nat.add_mul]; omega
theorem rowAt_len {l : List (List (Leaf m))} {k i : Nat} {z : List (SV m)} (h : ∀ e ∈ l, e.length = k) (hi : i ≤ l.length) : (rowAt l i z).length = i * k + z.length := by
  unfold rowAt
  rw [List.length_append, List.length_map, flatten_len (z := k) (fun e he => h e (List.mem_of_mem_take he)), List.length_take, Nat.min_eq_left hi]
theorem putAt_row {l : List (List (Leaf m))} {k i : Nat} {z : List (SV m)} (h : ∀ e ∈ l, e.length = k) (hi : i < l.length) :
    putAt (rowAt l i z) (i * k) (l[i].map SV.leaf) = rowAt l (i + 1) (z.drop k) := by
  have hl : ((l.take i).flatten.map (SV.leaf (m := m))).length = i * k := by
    rw [List.length_map, flatten_len (z := k) (fun e he => h e (List.mem_of_mem_take he)), List.length_take, Nat.min_eq_left (Nat.le_of_lt hi)]
  have hk : (l[i].map (SV.leaf (m := m))).length = k := by rw [List.length_map]; exact h _ (List.getElem_mem hi)
  unfold putAt rowAt
  rw [hk, List.take_append_of_le_length (by omega), List.take_of_length_le (by omega), ← hl, List.drop_append, List.drop_of_length_le (by omega)]
  rw [List.take_succ_eq_append_getElem hi]
  simp only [List.flatten_append, List.map_append, List.flatten_cons, List.flatten_nil, List.append_nil, List.append_assoc, List.nil_append, Nat.add_sub_cancel_left]
theorem asLeaves_map : ∀ l : List (Leaf m), asLeaves (l.map SV.leaf) = some l
  | [] => rfl
  | a :: l => by simp [asLeaves, asLeaf, asLeaves_map l]
theorem chunks_flatten {α : Type} {z : Nat} : ∀ {l : List (List α)}, (∀ e ∈ l, e.length = z) → chunks z l.length l.flatten = l
  | [], _ => rfl
  | e :: l, h => by
    have h1 := h e (by simp)
    have h2 := chunks_flatten (l := l) (fun e he => h e (by simp [he]))
    simp only [List.length_cons, chunks, List.flatten_cons, ← h1, List.take_left', List.drop_left']
    rw [h1, h2]
theorem row_full {l : List (List (Leaf m))} {k : Nat} {z : List (SV m)} (h : ∀ e ∈ l, e.length = k) : asLeaves ((rowAt l l.length z).take (l.length * k)) = some l.flatten := by
  unfold rowAt
  have hl : (l.flatten.map (SV.leaf (m := m))).length = l.length * k := by rw [List.length_map, flatten_len h]
  rw [List.take_length, List.take_append_of_le_length (by omega), List.take_of_length_le (by omega)]
  exact asLeaves_map _
end Go.Vs
end
section
namespace Go.Vs
variable {m : Bool} {P : Program} {N : Env} {H : Type} {enc : TypeId × Value → H}
def Parts (p : TypeId → List (Leaf m) → Prop) : List TypeId → List (Leaf m) → Prop
  | [], ls => ls = []
  | t :: ts, ls => ∃ a b, ls = a ++ b ∧ p t a ∧ Parts p ts b
def Shaped (P : Program) (c : Fl m) : Nat → TypeId → List (Leaf m) → Prop
  | 0, _, _ => False
  | n + 1, t, ls => match P.underlying t with
    | some .bool => ∃ b, ls = [.bool b]
    | some (.int k) => ∃ z, ls = [.int k z] ∧ (Lit.int k z).wf = true
    | some .string => ∃ s : ByteArray, ls = [.str s] ∧ s.size ≤ maxLen
    | some (.slice e) => ∃ es, ls = [.sl c es] ∧ es.length ≤ maxLen ∧ ∀ x ∈ es, Shaped P c n e x
    | some (.struct fs) => Parts (Shaped P c n) (fs.toList.map Field.type) ls
    | _ => False
def fsOk (P : Program) (S : List TypeId) : Nat → List Field → Nat → Bool
  | o, [], z => o == z
  | o, f :: fs, z => f.offset == o && S.contains f.type && fsOk P S (o + P.cellsOf f.type) fs z
def tyOk (P : Program) (S : List TypeId) (t : TypeId) : Bool := match P.underlying t with
  | some .bool | some (.int _) | some .string => true
  | some (.slice e) => S.contains e && decide (0 < P.cellsOf e)
  | some (.struct fs) => fsOk P S 0 fs.toList (P.cellsOf t)
  | _ => false
theorem parts_mono {p q : TypeId → List (Leaf m) → Prop} : ∀ {ts : List TypeId} {ls : List (Leaf m)}, (∀ t ls, p t ls → q t ls) → Parts p ts ls → Parts q ts ls
  | [], _, _, h => h
  | _ :: _, _, hpq, ⟨a, b, e, h1, h2⟩ => ⟨a, b, e, hpq _ _ h1, parts_mono hpq h2⟩
def sealW (w : World) : Fr := fun g => match w.heap[g]? with | some (.cells c _ _) => c.size | _ => 0
theorem sealW_lt {w : World} {g j : Nat} {v : Value} (h : w.cell? ⟨g, j, none⟩ = some v) : j < sealW w g := by
  unfold World.cell? at h
  unfold sealW
  simp only at h
  split at h
  · rename_i c e fr hc
    simp only [hc]
    exact (List.getElem?_eq_some_iff.1 (by simpa using h)).1
  · simp at h
theorem cells_row {w : World} {base : Nat} {a : Addr} {n : Nat} {cs : List Value} (h : w.cells? base a n = some cs) : cs.length = n ∧ ∀ j v, cs[j]? = some v → w.cell? (a.add j) = some v := by
  unfold World.cells? at h
  split at h
  · refine ⟨by simpa using mapM_some_length h, fun j v hj => ?_⟩
    have hlen : cs.length = n := by simpa using mapM_some_length h
    have hj' : j < n := by rw [← hlen]; exact (List.getElem?_eq_some_iff.1 hj).1
    have := mapM_some_get h j j (by simp [hj'])
    rw [this, hj]
  · simp at h
theorem partsW {w : World} {F : Fr} {base : Nat} {sp : Nat → Bool} {held : Bool} {c : Fl m} {S : List TypeId} {n : Nat}
    (ih : ∀ t cs x, t ∈ S → DataW.trod enc P w base sp held n t cs = some x → ∃ ls : List (Leaf m), RepR w F N ls cs ∧ Shaped P c n t ls) (cs : List Value) :
    ∀ (fs : List Field) (o : Nat), fsOk P S o fs cs.length = true → (∀ f ∈ fs, ∃ x, DataW.trod enc P w base sp held n f.type ((cs.drop f.offset).take (P.cellsOf f.type)) = some x) →
      ∃ ls : List (Leaf m), RepR w F N ls (cs.drop o) ∧ Parts (Shaped P c n) (fs.map Field.type) ls
  | [], o, h, _ => by
    simp only [fsOk, beq_iff_eq] at h
    refine ⟨[], ?_, rfl⟩
    rw [List.drop_of_length_le (by omega)]
    exact RepR.nil _ _ _
  | f :: fs, o, h, hx => by
    simp only [fsOk, Bool.and_eq_true, beq_iff_eq, List.contains_iff_mem] at h
    obtain ⟨⟨ho, hS⟩, h⟩ := h
    obtain ⟨x, hx0⟩ := hx f (by simp)
    obtain ⟨a, ha, sa⟩ := ih _ _ _ hS hx0
    obtain ⟨b, hb, sb⟩ := partsW ih cs fs _ h fun g hg => hx g (by simp [hg])
    refine ⟨a ++ b, ?_, a, b, rfl, sa, sb⟩
    have := ha.append hb
    rw [ho] at this
    rwa [← List.drop_drop, List.take_append_drop] at this
theorem trod_rep {w : World} {F : Fr} {base : Nat} {sp : Nat → Bool} {held : Bool} {c : Fl m} (hc1 : ∀ g o, c.Holds N w g o) (hc2 : c.isSoft = false) (hF : ∀ g j v, w.cell? ⟨g, j, none⟩ = some v → j < F g) (hZ : ∀ g, N.Z g = false)
    {S : List TypeId} (hS : S.all (tyOk P S) = true) : ∀ (fuel : Nat) (t : TypeId) (cs : List Value) (x : DataW H × List MemPlace), t ∈ S → DataW.trod enc P w base sp held fuel t cs = some x → ∃ ls : List (Leaf m), RepR w F N ls cs ∧ Shaped P c fuel t ls
  | 0, t, cs, x, _, h => by simp [DataW.trod] at h
  | n + 1, t, cs, x, ht, h => by
    have ih := trod_rep (c := c) hc1 hc2 hF hZ hS n (w := w) (base := base) (sp := sp) (held := held)
    have hok := List.all_eq_true.1 hS t ht
    unfold tyOk at hok
    split at hok
    · rename_i hu
      obtain ⟨b, rfl, _⟩ := DataW.trod_bool hu h
      exact ⟨[.bool b], RepR.cons (.bool b) (RepR.nil _ _ _), by unfold Shaped; simp only [hu]; exact ⟨b, rfl⟩⟩
    · rename_i k hu
      obtain ⟨z, rfl, _, hw⟩ := DataW.trod_int hu h
      exact ⟨[.int k z], RepR.cons (.int k z) (RepR.nil _ _ _), by unfold Shaped; simp only [hu]; exact ⟨z, rfl, hw⟩⟩
    · rename_i hu
      obtain ⟨s, rfl, _, hs⟩ := DataW.trod_string hu h
      exact ⟨[.str s], RepR.cons (.str s) (RepR.nil _ _ _), by unfold Shaped; simp only [hu]; exact ⟨s, rfl, hs⟩⟩
    · rename_i e hu
      have hs : ∀ ls : List (Leaf m), Shaped P c (n + 1) t ls ↔ ∃ es, ls = [.sl c es] ∧ es.length ≤ maxLen ∧ ∀ x ∈ es, Shaped P c n e x := fun ls => by
        conv => lhs; unfold Shaped
        simp only [hu]
      simp only [hs]
      simp only [Bool.and_eq_true, List.contains_iff_mem, decide_eq_true_eq] at hok
      obtain ⟨heS, hz⟩ := hok
      rcases DataW.trod_slice hu h with ⟨rfl, _⟩ | ⟨a, len, cap, elems, rest, n', hn, rfl, _, _, hlc, hcm, hel, hget, _, _⟩
      · exact ⟨[.sl c []], RepR.cons (repL_sl_mk (es := []) (z := 0) (vals := []) (Nat.le_refl _) (by simp) (fun h => by simp at h) (RepR.nil _ _ _)) (RepR.nil _ _ _), [], rfl, by simp, by simp⟩
      · obtain rfl : n' = n := by omega
        have rows : ∀ k, k ≤ len → ∃ (es : List (List (Leaf m))) (vals : List Value), es.length = k ∧ (∀ x ∈ es, x.length = P.cellsOf e) ∧ (∀ j v, vals[j]? = some v → w.cell? (a.add j) = some v) ∧ RepR w F N es.flatten vals ∧ vals.length = k * P.cellsOf e ∧ ∀ x ∈ es, Shaped P c n' e x := by
          intro k
          induction k with
          | zero => intro _; exact ⟨[], [], rfl, by simp, by simp, RepR.nil _ _ _, by simp, by simp⟩
          | succ k ihk =>
            intro hk
            obtain ⟨es, vals, h1, h2, h3, h4, h5, h6⟩ := ihk (by omega)
            have hg := hget k (by omega)
            have : k < elems.length := by omega
            rw [List.getElem?_eq_getElem this, Option.bind_eq_some_iff] at hg
            obtain ⟨ck, hck, htk⟩ := hg
            obtain ⟨ls, hls, hsh⟩ := ih _ _ _ heS htk
            obtain ⟨hcl, hcc⟩ := cells_row hck
            refine ⟨es ++ [ls], vals ++ ck, by simp [h1], ?_, ?_, by simpa using h4.append hls, by rw [List.length_append, h5, hcl, Nat.add_mul]; omega, ?_⟩
            · intro x hx
              rcases List.mem_append.1 hx with hx | hx
              · exact h2 x hx
              · obtain rfl : x = ls := by simpa using hx
                rw [← hls.1, hcl]
            · intro j v hj
              rw [List.getElem?_append] at hj
              split at hj
              · exact h3 j v hj
              · rename_i hge
                have := hcc _ _ hj
                rw [← this]
                congr 1
                have e1 : k * P.cellsOf e + (j - vals.length) = j := by omega
                unfold Addr.add
                by_cases hk0 : k * P.cellsOf e = 0
                · simp only [hk0, if_true]
                  rw [show j - vals.length = j by omega]
                · by_cases hj0 : j - vals.length = 0
                  · simp only [hk0, if_false, hj0, if_true]
                    rw [if_neg (by omega)]
                    congr 1; omega
                  · simp only [hk0, if_false, hj0]
                    rw [if_neg (by omega)]
                    simp only [Addr.mk.injEq, and_true, true_and]; omega
            · intro x hx
              rcases List.mem_append.1 hx with hx | hx
              · exact h6 x hx
              · obtain rfl : x = ls := by simpa using hx
                exact hsh
        obtain ⟨es, vals, h1, h2, h3, h4, h5, h6⟩ := rows len (Nat.le_refl _)
        refine ⟨[.sl c es], RepR.cons ?_ (RepR.nil _ _ _), es, rfl, by omega, h6⟩
        subst h1
        refine repL_sl_mk hlc h2 (fun hpos => ?_) h4
        have hv0 : 0 < vals.length := by rw [h5]; exact Nat.mul_pos hpos hz
        obtain ⟨g, o, spot⟩ := a
        have hc0 := h3 0 _ (List.getElem?_eq_getElem hv0)
        have hsp : spot = none := by
          cases spot with
          | none => rfl
          | some s =>
            exfalso
            simp only [Addr.add, if_true, World.cell?] at hc0
            split at hc0 <;> simp at hc0
        subst hsp
        have hcell : ∀ j v, vals[j]? = some v → w.cell? ⟨g, o + j, none⟩ = some v := fun j v hj => by
          have := h3 j v hj
          unfold Addr.add at this
          split at this
          · rename_i hj0; rw [hj0]; exact this
          · exact this
        have hlast := hF _ _ _ (hcell (vals.length - 1) _ (List.getElem?_eq_getElem (by omega)))
        exact ⟨g, o, rfl, ⟨hv0, hc1 _ _⟩, by omega, ⟨fun h => by rw [hc2] at h; simp at h, fun h => by rw [hZ] at h; simp at h⟩, hcell⟩
    · rename_i fs hu
      have hs : ∀ ls : List (Leaf m), Shaped P c (n + 1) t ls ↔ Parts (Shaped P c n) (fs.toList.map Field.type) ls := fun ls => by
        conv => lhs; unfold Shaped
        simp only [hu]
      simp only [hs]
      obtain ⟨xs, n', hn, _, hl, hlen, hf⟩ := DataW.trod_struct hu h
      obtain rfl : n' = n := by omega
      rw [← hl] at hok
      have := partsW (c := c) ih cs fs.toList 0 hok fun f hfm => by
        obtain ⟨i, hi, rfl⟩ := List.getElem_of_mem hfm
        have hi' : i < fs.size := by simpa using hi
        have := hf i fs[i] (Array.getElem?_eq_getElem hi')
        rw [List.getElem?_eq_getElem (by omega)] at this
        exact ⟨_, by simpa using this⟩
      simpa using this
    · simp at hok
end Go.Vs
namespace Go.Vs
variable {m : Bool} {P : Program}
abbrev Known := List ((Nat × Nat) × Value)
def KOk (W : World) (K : Known) : Prop := ∀ k ∈ K, k.1.2 < sealW W k.1.1 ∧ W.cell? ⟨k.1.1, k.1.2, none⟩ = some k.2
theorem KOk.nil {W : World} : KOk W [] := fun _ h => by cases h
theorem KOk.lt {W : World} {K : Known} (h : KOk W K) : ∀ k ∈ K, k.1.1 < W.heap.size := fun k hk => Nat.lt_of_not_le fun hn => by
  have := (h k hk).1
  unfold sealW at this
  rw [Array.getElem?_eq_none hn] at this
  simp at this
def N0 (W : World) (K : Known := []) (B : List (Nat × Nat) := []) : Env := { n := W.heap.size, Z := fun _ => false, lt := fun g h => by simp at h, K := K, B := B }
theorem KOk.lowB {W : World} {K : Known} {B : List (Nat × Nat)} (h : KOk W K) (hB : ∀ p ∈ B, BSz W p.1 p.2) : Low (N0 W K B) W (sealW W) := ⟨Nat.le_refl _, fun k hk => ⟨(h k hk).1, rfl, (h k hk).2⟩, hB⟩
theorem KOk.low {W : World} {K : Known} (h : KOk W K) : Low (N0 W K) W (sealW W) := h.lowB (fun _ h => by cases h)
theorem law_calls {K : Known} {B : List (Nat × Nat)} {W : World} {D : Oracle m} (hD : DSound P (N0 W K B) D) {f : FuncId} {args : List (SV m)} {r : SV m} (h : D f args [] = some (r, [])) (hh : args.all SV.handed = true) {vals : Array Value} (hl : args.length = vals.size)
    (hr : ∀ j a v, args[j]? = some a → vals[j]? = some v → RepS P W (sealW W) (N0 W K B) (fun _ => none) (fun _ => W.heap.size) (fun _ => false) (.tmp j) a v) (hK : KOk W K := by exact KOk.nil) (hB : ∀ p ∈ B, BSz W p.1 p.2 := by exact fun _ h => by cases h) :
    Calls P f vals W fun e w' => ∃ v F' Ow' bm al, e = .returned v ∧ RepS P w' F' (N0 W K B) Ow' bm al (.tmp 0) r v ∧ Go.RowKit.Below W.heap.size W w' := by
  obtain ⟨_, _, _, _, hc⟩ := hD f args [] (r, []) h hh (by simp)
  refine (hc W (sealW W) (fun _ => none) (fun _ => W.heap.size) vals ⟨hl, fun t => ?_, fun b cs hb => ?_, hK.lowB hB, fun g hg => ⟨?_, rfl⟩, fun b cs hb => ?_, fun g hg => ?_⟩).mono fun e w' ⟨v, F', Ow', he, hi, hf⟩ => ?_
  · by_cases ht : t < args.length
    · have := hr t _ _ (List.getElem?_eq_getElem ht) (Array.getElem?_eq_getElem (by omega))
      simp only [List.getD, List.getElem?_eq_getElem ht, Option.getD_some, Array.getD, show t < vals.size by omega, dif_pos]
      exact this.keeps (Keeps.refl _ _) (fun b hb => by simp at hb) (fun g hg => by simp at hg)
    · simp only [List.getD, List.getElem?_eq_none (Nat.not_lt.1 ht), Option.getD_none]
      exact trivial
  · simp [boxAt] at hb
  · unfold sealW
    rw [Array.getElem?_eq_none hg]
  · simp [boxAt] at hb
  · simp [N0] at hg
  · refine ⟨v, F', Ow', _, _, he, hi.slot 0, hf.os, hf.tape, hf.output, hf.size, fun k hk => (hf.old k hk rfl).1 rfl⟩
end Go.Vs
end
section
namespace Go.Vs
variable {m m' : Bool} {P : Program}
mutual
def reF (φ : Fl m → Fl m') : Leaf m → Leaf m'
  | .bool b => .bool b
  | .int k n => .int k n
  | .str s => .str s
  | .unk => .unk
  | .nl e => .nl e
  | .sl c es => .sl (φ c) (reE φ es)
def reL (φ : Fl m → Fl m') : List (Leaf m) → List (Leaf m')
  | [] => []
  | l :: r => reF φ l :: reL φ r
def reE (φ : Fl m → Fl m') : List (List (Leaf m)) → List (List (Leaf m'))
  | [] => []
  | e :: r => reL φ e :: reE φ r
end
variable {φ : Fl m → Fl m'}
theorem reL_map : ∀ l : List (Leaf m), reL φ l = l.map (reF φ)
  | [] => rfl
  | l :: r => by rw [reL, List.map_cons, reL_map r]
theorem reE_map : ∀ l : List (List (Leaf m)), reE φ l = l.map (reL φ)
  | [] => rfl
  | l :: r => by rw [reE, List.map_cons, reE_map r]
theorem reL_length (l : List (Leaf m)) : (reL φ l).length = l.length := by rw [reL_map, List.length_map]
theorem reE_length (l : List (List (Leaf m))) : (reE φ l).length = l.length := by rw [reE_map, List.length_map]
theorem reE_flatten : ∀ l : List (List (Leaf m)), (reE φ l).flatten = reL φ l.flatten
  | [] => rfl
  | e :: r => by rw [reE, List.flatten_cons, List.flatten_cons, reE_flatten r, reL_map, reL_map, reL_map, List.map_append]
theorem reF_soft (l : Leaf m) : (reF φ l).soft = l.soft := by cases l <;> rfl
def ReOk (φ : Fl m → Fl m') (w : World) (F : Fr) (N : Env) (F' : Fr) (N' : Env) : Prop :=
  ∀ (c : Fl m) (g o : Nat), g < w.heap.size → c.Holds N w g o → (φ c).Holds N' w g o ∧ F g ≤ F' g ∧ ((c.isSoft = true → N.Z g = true) → (φ c).isSoft = true → N'.Z g = true) ∧ (N'.Z g = true → N.Z g = true)
theorem cell_lt {w : World} {g j : Nat} {v : Value} (h : w.cell? ⟨g, j, none⟩ = some v) : g < w.heap.size := by
  unfold World.cell? at h
  simp only at h
  split at h
  · rename_i c e fr hc
    exact (Array.getElem?_eq_some_iff.1 hc).1
  · simp at h
theorem RepL.re {w : World} {F F' : Fr} {N N' : Env} (hok : ReOk φ w F N F' N') {l : Leaf m} {v : Value} (h : RepL w F N l v) : RepL w F' N' (reF φ l) v := by
  induction h with
  | bool b => exact .bool b
  | int k n => exact .int k n
  | str s => exact .str s
  | unk v h => exact .unk v h
  | nl e => exact .nl e
  | sl c es A cap z vals hc hz hv hcell hr ih =>
    rw [show reF φ (.sl c es) = .sl (φ c) (reE φ es) by rw [reF]]
    have hl : (reE φ es).length = es.length := reE_length es
    rw [← hl]
    refine .sl (φ c) (reE φ es) A cap z vals (by rw [hl]; exact hc) (fun e he => ?_) (by rw [hl]; exact hv) (fun hpos => ?_) (fun j l v h1 h2 => ?_)
    · rw [reE_map] at he
      obtain ⟨e0, he0, rfl⟩ := List.mem_map.1 he
      rw [reL_length]; exact hz e0 he0
    · rw [hl] at hpos
      obtain ⟨g, o, e, ⟨hv0, hn⟩, hle, hso, hcl⟩ := hcell hpos
      obtain ⟨h1, h2, h3, h4⟩ := hok c g o (cell_lt (hcl 0 _ (List.getElem?_eq_getElem hv0))) hn
      refine ⟨g, o, e, ⟨hv0, h1⟩, Nat.le_trans hle h2, ⟨fun hs => h3 hso.1 hs, fun hz' l hl' => ?_⟩, hcl⟩
      rw [reE_flatten, reL_map] at hl'
      obtain ⟨l0, hl0, rfl⟩ := List.mem_map.1 hl'
      rw [reF_soft]
      exact hso.2 (h4 hz') l0 hl0
    · rw [reE_flatten, reL_map, List.getElem?_map, Option.map_eq_some_iff] at h1
      obtain ⟨l0, hl0, rfl⟩ := h1
      exact ih j l0 v hl0 h2
theorem RepR.re {w : World} {F F' : Fr} {N N' : Env} (hok : ReOk φ w F N F' N') {ls : List (Leaf m)} {vs : List Value} (h : RepR w F N ls vs) : RepR w F' N' (reL φ ls) vs := by
  refine ⟨by rw [reL_length, h.1], fun j l v h1 h2 => ?_⟩
  rw [reL_map, List.getElem?_map, Option.map_eq_some_iff] at h1
  obtain ⟨l0, hl0, rfl⟩ := h1
  exact (h.2 j l0 v hl0 h2).re hok
theorem reOk_plain {w : World} {F : Fr} {N : Env} (hφ : ∀ c g o, (φ c).Holds N w g o) (hs : ∀ c, (φ c).isSoft = false) : ReOk φ w F N F N :=
  fun c g o _ _ => ⟨hφ c g o, Nat.le_refl _, fun _ h => by rw [hs] at h; simp at h, id⟩
theorem plain_holds (c : Fl false) {N : Env} {w : World} {g o : Nat} : c.Holds N w g o := by cases c; trivial
theorem old_holds {N : Env} {w : World} {g o : Nat} : Fl.Holds (m := true) Flag.old N w g o := trivial
end Go.Vs
end
section
namespace Go.Vs
variable {m m' : Bool} {P : Program}
mutual
def reS (φ : Fl m → Fl m') : SV m → SV m'
  | .any => .any
  | .skip => .skip
  | .leaf l => .leaf (reF φ l)
  | .own e es => .own e (reE φ es)
  | .raw e es => .raw e (reE φ es)
  | .agg cs => .agg (reL φ cs)
  | .ptr b o => .ptr b o
  | .eptr _ _ _ => .any
  | .kfn f cs => .kfn f cs
  | .bsl b z lo n => .bsl b z lo n
  | .nilptr => .nilptr
  | .nilface => .nilface
  | .fn f caps => .fn f (reSs φ caps)
  | .tup vs => .tup (reSs φ vs)
def reSs (φ : Fl m → Fl m') : List (SV m) → List (SV m')
  | [] => []
  | v :: r => reS φ v :: reSs φ r
end
variable {φ : Fl m → Fl m'}
theorem reSs_map : ∀ l : List (SV m), reSs φ l = l.map (reS φ)
  | [] => rfl
  | l :: r => by rw [reSs, List.map_cons, reSs_map r]
theorem reS_data (x : SV m) : (reS φ x).data = x.data := by cases x <;> rfl
theorem reS_flat (x : SV m) (h : x.flat = true) : (reS φ x).flat = true := by cases x <;> first | rfl | simp [SV.flat] at h
theorem reS_flatT (x : SV m) (h : x.flatT = true) : (reS φ x).flatT = true := by
  cases x with
  | tup vs =>
    rw [reS, reSs_map]
    simp only [SV.flatT, List.all_map] at h ⊢
    exact List.all_eq_true.2 fun v hv => reS_flat v (List.all_eq_true.1 h v hv)
  | _ => first | rfl | simp [SV.flatT, SV.flat] at h
theorem reS_back {n : Nat} (x : SV m) (h : x.backOk n = true) : (reS φ x).backOk n = true := by
  rcases backOk_cases h with ⟨b, z, lo, k, rfl, hlt⟩ | h'
  · exact h
  · have := reS_flatT (φ := φ) x h'
    cases x <;> first | exact this | simp [SV.flatT, SV.flat] at h'
theorem reS_handed (x : SV m) (h : x.handed = true) : (reS φ x).handed = true := by
  cases x with
  | fn f caps =>
    rw [reS, reSs_map]
    simp only [SV.handed, List.all_map] at h ⊢
    refine List.all_eq_true.2 fun v hv => ?_
    have := List.all_eq_true.1 h v hv
    cases v <;> first | rfl | simp at this
  | _ => first | rfl | simp [SV.handed, SV.data] at h
def reSt (φ : Fl m → Fl m') (s : St m) : St m' := { tmps := s.tmps.map (reS φ), boxes := s.boxes.map (Option.map (List.map (reS φ))) }
theorem boxAt_re (bs : Boxes m) (b : Nat) : boxAt (bs.map (Option.map (List.map (reS φ)))) b = (boxAt bs b).map (List.map (reS φ)) := by
  unfold boxAt
  rw [List.getD_eq_getElem?_getD, List.getD_eq_getElem?_getD, List.getElem?_map]
  cases bs[b]? <;> rfl
section
variable {w : World} {F : Fr} {N : Env} (hok : ReOk φ w F N F N)
include hok
theorem RepF.re {bm : Nat → Nat} {al : Nat → Bool} {x : SV m} {v : Value} (h : RepF w F N bm al x v) : RepF w F N bm al (reS φ x) v := by
  cases x with
  | leaf l => exact RepL.re hok h
  | agg cs => obtain ⟨vs, e, hr⟩ := h; exact ⟨vs, e, hr.re hok⟩
  | eptr c e o => trivial
  | own e es => exact absurd h id
  | raw e es => exact absurd h id
  | fn f caps => exact absurd h id
  | tup vs => exact absurd h id
  | _ => exact h
theorem RepO.re {Ow : Own} {loc : Loc} {q : Bool} {eo : Option TypeId} {es : List (List (Leaf m))} {v : Value} (h : RepO P w F N Ow loc q eo es v) : RepO P w F N Ow loc q eo (reE φ es) v := by
  rcases h with ⟨rfl, rfl⟩ | ⟨g, cap, cur, e, i, vals, hn, he, hi, hz, rfl, hg, hc, hm, hs, hx, ho, hf, ht, hr⟩
  · exact .inl ⟨rfl, rfl⟩
  · refine .inr ⟨g, cap, cur, e, i, vals, hn, he, hi, hz, by rw [reE_length], hg, by rw [reE_length]; exact hc, hm, hs, fun x hx' => ?_, ho, by rw [reE_length]; exact hf, by rw [reE_length]; exact ht, by rw [reE_flatten]; exact hr.re hok⟩
    rw [reE_map] at hx'
    obtain ⟨x0, hx0, rfl⟩ := List.mem_map.1 hx'
    rw [reL_length]; exact hx x0 hx0
theorem RepS.re {Ow : Own} {bm : Nat → Nat} {al : Nat → Bool} {loc : Loc} {x : SV m} {v : Value} (h : RepS P w F N Ow bm al loc x v) : RepS P w F N Ow bm al loc (reS φ x) v := by
  have caps : ∀ (cs : List (SV m)) (vs : Array Value), (∀ (j : Nat) (c : SV m) (u : Value), cs[j]? = some c → vs[j]? = some u → RepF w F N bm al c u) →
      ∀ (j : Nat) (c : SV m') (u : Value), (reSs φ cs)[j]? = some c → vs[j]? = some u → RepF w F N bm al c u := by
    intro cs vs hc j c u h1 h2
    rw [reSs_map, List.getElem?_map, Option.map_eq_some_iff] at h1
    obtain ⟨c0, h0, rfl⟩ := h1
    exact (hc j c0 u h0 h2).re hok
  cases x with
  | own eo es => exact RepO.re hok h
  | raw eo es => exact RepO.re hok h
  | fn f cs => obtain ⟨vs, e, hs, hc⟩ := h; exact ⟨vs, e, by rw [hs, reSs_map, List.length_map], caps cs vs hc⟩
  | tup cs => obtain ⟨vs, e, hs, hc⟩ := h; exact ⟨vs, e, by rw [hs, reSs_map, List.length_map], caps cs vs hc⟩
  | any => trivial
  | eptr c e o => trivial
  | _ =>
    simp only [RepS] at h
    have := RepF.re (bm := bm) (al := al) hok h
    simpa only [reS, RepS] using this
theorem Inv.re {s : St m} {tmps : Array Value} {Ow : Own} {bm : Nat → Nat} (h : Inv P s tmps w F N Ow bm) : Inv P (reSt φ s) tmps w F N Ow bm := by
  have hal : (fun b => (boxAt (reSt φ s).boxes b).isSome) = fun b => (boxAt s.boxes b).isSome := by
    funext b; show (boxAt (s.boxes.map _) b).isSome = _; rw [boxAt_re]; cases boxAt s.boxes b <;> rfl
  refine ⟨by show (s.tmps.map _).length = _; rw [List.length_map]; exact h.len, fun t => ?_, fun b cs hb => ?_, h.low, h.new, fun b cs hb => ?_, h.zow⟩
  · rw [hal]
    have := RepS.re hok (h.slot t)
    have e : (reSt φ s).tmps.getD t SV.any = reS φ (s.tmps.getD t SV.any) := by
      show (s.tmps.map (reS φ)).getD t SV.any = _
      rw [List.getD_eq_getElem?_getD, List.getD_eq_getElem?_getD, List.getElem?_map]
      cases s.tmps[t]? <;> rfl
    rw [e]; exact this
  · have hb' : (boxAt s.boxes b).map (List.map (reS φ)) = some cs := by rw [← boxAt_re]; exact hb
    rw [Option.map_eq_some_iff] at hb'
    obtain ⟨cs0, h0, rfl⟩ := hb'
    rcases h.box b cs0 h0 with q0 | ⟨cur, e, g1, g2, g3, g4, g5⟩
    · subst q0; exact .inl rfl
    refine .inr ⟨cur, e, g1, by rw [List.length_map]; exact g2, g3, g4, fun j c u h1 h2 => ?_⟩
    rw [hal]
    rw [List.getElem?_map, Option.map_eq_some_iff] at h1
    obtain ⟨c0, hc0, rfl⟩ := h1
    exact RepS.re hok (g5 j c0 u hc0 h2)
  · have hb' : (boxAt s.boxes b).map (List.map (reS φ)) = some cs := by rw [← boxAt_re]; exact hb
    rw [Option.map_eq_some_iff] at hb'
    obtain ⟨cs0, h0, _⟩ := hb'
    exact h.bmn b cs0 h0
end
abbrev er : Fl true → Fl false := fun _ => ()
abbrev li : Fl false → Fl true := fun _ => Flag.old
def lifted (D : Oracle false) (f : FuncId) (args : List (SV true)) (boxes : List (List (SV true))) : Option (SV true × List (List (SV true))) :=
  (D f (args.map (reS er)) (boxes.map (List.map (reS er)))).map fun r => (reS li r.1, r.2.map (List.map (reS li)))
theorem lifted_sound {N : Env} {D : Oracle false} (hD : DSound P N D) : DSound P N (lifted D) := by
  intro f args boxes r hr hh hf
  unfold lifted at hr
  rw [Option.map_eq_some_iff] at hr
  obtain ⟨r0, hr0, rfl⟩ := hr
  obtain ⟨a1, a2, a3, a4, a5⟩ := hD f _ _ r0 hr0 (by
    rw [List.all_map]
    exact List.all_eq_true.2 fun v hv => reS_handed v (List.all_eq_true.1 hh v hv)) (fun c hc x hx => by
    obtain ⟨c0, hc0, rfl⟩ := List.mem_map.1 hc
    obtain ⟨x0, hx0, rfl⟩ := List.mem_map.1 hx
    exact reS_flat x0 (hf c0 hc0 x0 hx0))
  refine ⟨by rw [List.length_map, a1, List.length_map], reS_back _ (by rw [List.length_map] at a2; exact a2), fun cs hcs c hc => ?_, a4, fun w F Ow bm vals h => ?_⟩
  · obtain ⟨c0, hc0, rfl⟩ := List.mem_map.1 hcs
    obtain ⟨x0, hx0, rfl⟩ := List.mem_map.1 hc
    exact reS_flat x0 (a3 c0 hc0 x0 hx0)
  · have e : reSt er { tmps := args, boxes := boxes.map some } = { tmps := args.map (reS er), boxes := (boxes.map (List.map (reS er))).map some } := by
      unfold reSt
      simp only [List.map_map]
      rfl
    refine (a5 w F Ow bm vals (e ▸ Inv.re (reOk_plain (fun c g o => plain_holds _) (fun c => rfl)) h)).mono fun ex w' ⟨v, F', Ow', h1, h2, h3⟩ => ⟨v, F', Ow', h1, ?_, h3⟩
    have e2 : reSt li { tmps := [r0.1], boxes := r0.2.map some } = { tmps := [reS li r0.1], boxes := (r0.2.map (List.map (reS li))).map some } := by
      unfold reSt
      simp only [List.map_map]
      rfl
    exact e2 ▸ Inv.re (reOk_plain (fun c g o => old_holds) (fun c => rfl)) h2
def liftT (D : Oracle false) (keep : FuncId → Bool) : Told true := fun f => match keep f with | true => none | false => some fun a b => lifted D f a b
theorem liftT_sound {N : Env} {D : Oracle false} (hD : DSound P N D) (keep : FuncId → Bool) : TSound P N (liftT D keep) := by
  intro f t ht
  unfold liftT at ht
  cases hk : keep f with
  | true => simp [hk] at ht
  | false =>
    simp only [hk, Option.some.injEq] at ht
    subst ht
    intro g args boxes r hr
    simp only at hr
    split at hr
    · rename_i hg; subst hg; exact lifted_sound hD g args boxes r hr
    · simp at hr
theorem lift_told {D : Oracle false} {keep : FuncId → Bool} {H : FuncId → Hints} {f : FuncId} (hk : keep f = false) {a : List (SV true)} {b : List (List (SV true))} {a' : List (SV false)} {b' : List (List (SV false))} {r' : SV false × List (List (SV false))} {r : SV true × List (List (SV true))}
    (h : D f a' b' = some r') (ha : a.map (reS er) = a') (hb : b.map (List.map (reS er)) = b') (hr : (reS li r'.1, r'.2.map (List.map (reS li))) = r) : den P (liftT D keep) H f a b = some r := by
  subst ha hb hr
  refine den_told (T := liftT D keep) (t := fun a b => lifted D f a b) (by simp [liftT, hk]) ?_
  simp [lifted, h]
end Go.Vs
end
section
namespace Go.Vs
variable {m : Bool} {P : Program}
def noLoop : Code → Bool
  | .seq a b => noLoop a && noLoop b
  | .cond _ a b => noLoop a && noLoop b
  | .block _ a => noLoop a
  | .loop _ => false
  | _ => true
def spine : Nat → Code → Bool
  | 0, _ => true
  | n + 1, .seq a b => noLoop a && spine n b
  | _ + 1, _ => false
abbrev way (n : Nat) : List Nat := List.replicate n 1
section
variable {β : Type} {D : Oracle m} {H : Hints} {nm : List (List Nat)} {J : List Nat × St m → Option β}
theorem codeN_plain : ∀ (c : Code) (r : List Nat) (blk : Nat) (s : St m) (k : Out m → Option β), noLoop c = true → (∀ q : List Nat, nm.contains (q ++ r).reverse = false) → codeN P D H nm J r blk c s k = code2K P D H limR blk c s k
  | .seq a b, r, blk, s, k, hn, hr => by
    simp only [noLoop, Bool.and_eq_true] at hn
    have h0 : ∀ q : List Nat, nm.contains (q ++ (0 :: r)).reverse = false := fun q => by have := hr (q ++ [0]); rwa [List.append_assoc] at this
    have h1 : ∀ q : List Nat, nm.contains (q ++ (1 :: r)).reverse = false := fun q => by have := hr (q ++ [1]); rwa [List.append_assoc] at this
    have c0 : nm.contains (0 :: r).reverse = false := h0 []
    have c1 : nm.contains (1 :: r).reverse = false := h1 []
    simp only [codeN, code2K, c0, c1, Bool.false_eq_true, if_false]
    rw [codeN_plain a _ _ _ _ hn.1 h0]
    congr 1
    funext o
    cases o <;> simp only [seqK]
    exact codeN_plain b _ _ _ _ hn.2 h1
  | .cond c a b, r, blk, s, k, hn, hr => by
    simp only [noLoop, Bool.and_eq_true] at hn
    have h0 : ∀ q : List Nat, nm.contains (q ++ (0 :: r)).reverse = false := fun q => by have := hr (q ++ [0]); rwa [List.append_assoc] at this
    have h1 : ∀ q : List Nat, nm.contains (q ++ (1 :: r)).reverse = false := fun q => by have := hr (q ++ [1]); rwa [List.append_assoc] at this
    have c0 : nm.contains (0 :: r).reverse = false := h0 []
    have c1 : nm.contains (1 :: r).reverse = false := h1 []
    simp only [codeN, code2K, c0, c1, Bool.false_eq_true, if_false, forceSt_eq]
    congr 1
    funext t
    rw [codeN_plain a _ _ _ _ hn.1 h0, codeN_plain b _ _ _ _ hn.2 h1]
  | .block id a, r, blk, s, k, hn, hr => by
    simp only [noLoop] at hn
    have h0 : ∀ q : List Nat, nm.contains (q ++ (0 :: r)).reverse = false := fun q => by have := hr (q ++ [0]); rwa [List.append_assoc] at this
    have c0 : nm.contains (0 :: r).reverse = false := h0 []
    simp only [codeN, code2K, c0, Bool.false_eq_true, if_false]
    exact codeN_plain a _ _ _ _ hn h0
  | .loop a, _, _, _, _, hn, _ => by simp [noLoop] at hn
  | .skip, _, _, _, _, _, _ => rfl
  | .region .., _, _, _, _, _, _ => rfl
  | .exit _, _, _, _, _, _, _ => rfl
  | .ret, _, _, _, _, _, _ => rfl
  | .rangeFunc .., _, _, _, _, _, _ => rfl
  | .scope _, _, _, _, _, _, _ => rfl
  | .label _, _, _, _, _, _, _ => rfl
  | .goto _, _, _, _, _, _, _ => rfl
  | .refuse _, _, _, _, _, _, _ => rfl
theorem way_no {j : Nat} (q : List Nat) (r : List Nat) : ([way j] : List (List Nat)).contains (q ++ (0 :: r)).reverse = false := by
  rw [Bool.eq_false_iff]
  intro h
  have := List.eq_of_mem_singleton (List.contains_iff_mem.1 h)
  have h0 : (0 : Nat) ∈ (q ++ (0 :: r)).reverse := by simp
  rw [this] at h0
  have := List.eq_of_mem_replicate h0
  omega
theorem way_rev (j : Nat) : (way j).reverse = way j := List.reverse_replicate
theorem sub_nil (c : Code) : sub c [] = c := by cases c <;> rfl
theorem spine_sub : ∀ (j : Nat) (c : Code), spine j c = true → blkAt 0 c (way j) = 0
  | 0, c, _ => by cases c <;> rfl
  | j + 1, .seq a b, h => by
    simp only [spine, Bool.and_eq_true] at h
    simp only [way, List.replicate_succ, blkAt]
    exact spine_sub j b h.2
theorem spine_cont {kE : Out m → Option β} : ∀ (j : Nat) (r : List Nat) (c : Code), spine j c = true → contN P D H nm J r 0 c (way j) kE = kE
  | 0, r, c, _ => by cases c <;> rfl
  | j + 1, r, .seq a b, h => by
    simp only [spine, Bool.and_eq_true] at h
    simp only [way, List.replicate_succ, contN]
    exact spine_cont j _ b h.2
end
section
variable {D : Oracle m} {H : Hints} {nt : Nat} {β : Type}
theorem quick_sound {N : Env} (hP : P.follows .mixedOrders = true) (hD : DSound P N D) (hH : H.nt = nt) {L : Nat} (hL : nt ≤ L) {c : Code} {blk : Nat} {k : Out m → Option β} {y : β} {s : St m} {a : Act} {w : World} {F : Fr} {Ow : Own} {bm : Nat → Nat}
    {Q : Exit → Act → World → Prop} (hc : code2K P D H limR blk c s k = some y) (h : Inv P s a.tmps w F N Ow bm) (hl : s.boxes.length = L)
    (hk : ∀ out ex a' w', k out = some y → Ends P N nt L a w F Ow bm out ex a' w' → Q ex a' w') : c.wp P Q a w := by
  have h1 := code2_ref (P := P) (D := D) (H := H) up_limR c blk s k k y (fun _ h => h) hc
  rw [codeK_bind, Option.bind_eq_some_iff] at h1
  obtain ⟨o, ho, hko⟩ := h1
  obtain ⟨n, hn⟩ := codeK_lim (Dn := fun _ => D) (D := D) ⟨fun _ _ _ _ _ _ _ h => h, fun f a b r h => ⟨0, h⟩⟩ c blk s o ho
  refine code_sound hP hD hH n L hL c blk some o s a w F Ow bm Q (hn n (Nat.le_refl _)) h hl fun out ex a' w' he hend => ?_
  obtain rfl := Option.some.inj he
  exact hk _ _ _ _ hko hend
theorem spine_sound {N : Env} (hP : P.follows .mixedOrders = true) (hD : DSound P N D) (hH : H.nt = nt) {L : Nat} (hL : nt ≤ L) {J : List Nat × St m → Option β} {k : Out m → Option β} {y : β} {Q : Exit → Act → World → Prop} :
    ∀ (n j : Nat) (c : Code) (s : St m) (a : Act) (w : World) (F : Fr) (Ow : Own) (bm : Nat → Nat), spine (n + 1) c = true → codeN P D H [way (j + (n + 1))] J (way j) 0 c s k = some y → Inv P s a.tmps w F N Ow bm → s.boxes.length = L →
    (∀ out ex a' w', k out = some y → (∀ s', out ≠ .norm s') → Ends P N nt L a w F Ow bm out ex a' w' → Q ex a' w') →
    (∀ s' a' w', J (way (j + (n + 1)), s') = some y → Step P N nt s' a w F Ow bm a' w' → s'.boxes.length = L → (sub c (way (n + 1))).wp P Q a' w') → c.wp P Q a w := by
  intro n
  induction n with
  | zero =>
    intro j c s a w F Ow bm hs hc h hl hk hJ
    cases c with
    | seq x y' =>
      simp only [spine, Bool.and_eq_true] at hs
      have c0 : ([way (j + 1)] : List (List Nat)).contains (0 :: way j).reverse = false := way_no [] (way j)
      have c1 : ([way (j + 1)] : List (List Nat)).contains (1 :: way j).reverse = true := by
        rw [show (1 :: way j) = way (j + 1) from rfl, way_rev]; simp
      have e1 : (1 :: way j).reverse = way (j + 1) := by rw [show (1 :: way j) = way (j + 1) from rfl, way_rev]
      simp only [codeN, Nat.zero_add, c0, c1, Bool.false_eq_true, if_false, if_true] at hc
      rw [codeN_plain x _ _ _ _ hs.1 fun q => way_no q (way j)] at hc
      refine wp_seq (quick_sound hP hD hH hL hc h hl fun out ex a' w' ho he => ?_)
      cases out <;> cases ex <;> simp only [Ends] at he
      · simp only [seqK, e1] at ho
        have := hJ _ a' w' ho he.1 he.2
        rw [show sub (x.seq y') (way (0 + 1)) = sub y' [] from rfl, sub_nil] at this
        exact this
      · exact hk _ _ _ _ ho (fun s' h => by cases h) he
      · exact hk _ _ _ _ ho (fun s' h => by cases h) he
    | _ => simp [spine] at hs
  | succ n ih =>
    intro j c s a w F Ow bm hs hc h hl hk hJ
    cases c with
    | seq x y' =>
      rw [spine, Bool.and_eq_true] at hs
      have c0 : ([way (j + (n + 1 + 1))] : List (List Nat)).contains (0 :: way j).reverse = false := way_no [] (way j)
      have c1 : ([way (j + (n + 1 + 1))] : List (List Nat)).contains (1 :: way j).reverse = false := by
        rw [show (1 :: way j) = way (j + 1) from rfl, way_rev, Bool.eq_false_iff]
        intro hh
        have := congrArg List.length (List.eq_of_mem_singleton (List.contains_iff_mem.1 hh))
        simp at this
      simp only [codeN, c0, c1, Bool.false_eq_true, if_false] at hc
      rw [codeN_plain x _ _ _ _ hs.1 fun q => way_no q (way j)] at hc
      refine wp_seq (quick_sound hP hD hH hL hc h hl fun out ex a' w' ho he => ?_)
      cases out <;> cases ex <;> simp only [Ends] at he
      · simp only [seqK] at ho
        obtain ⟨hst, hl'⟩ := he
        obtain ⟨F1, O1, b1, h1, htr⟩ := Ends.trans (L := L) hst
        obtain ⟨F2, O2, b2, h2, htr2⟩ := hst.inv
        refine ih (j + 1) y' _ a' w' F2 O2 b2 hs.2 (by rw [show j + 1 + (n + 1) = j + (n + 1 + 1) by omega]; exact ho) h2 hl' (fun out ex a2 w2 ho2 hne he2 => hk out ex a2 w2 ho2 hne ?_) fun s2 a2 w2 hJ2 hst2 hl2 => ?_
        · cases out <;> cases ex <;> simp only [Ends] at he2 ⊢
          · exact ⟨htr2 _ _ _ he2.1, he2.2⟩
          · exact ⟨he2.1, htr2 _ _ _ he2.2.1, he2.2.2⟩
          · exact ⟨htr2 _ _ _ he2.1, he2.2⟩
        · have := hJ s2 a2 w2 (by rw [show j + (n + 1 + 1) = j + 1 + (n + 1) by omega]; exact hJ2) (htr2 _ _ _ hst2) hl2
          exact this
      · exact hk _ _ _ _ ho (fun s' h => by cases h) he
      · exact hk _ _ _ _ ho (fun s' h => by cases h) he
    | _ => simp [spine] at hs
end
end Go.Vs
namespace Go.Vs
variable {m : Bool} {P : Program}
theorem spine_split : ∀ (j n : Nat) (c : Code), spine (j + n) c = true → spine j c = true ∧ spine n (sub c (way j)) = true
  | 0, n, c, h => ⟨rfl, by rw [show way 0 = [] from rfl, sub_nil]; simpa using h⟩
  | j + 1, n, .seq a b, h => by
    rw [show j + 1 + n = (j + n) + 1 by omega, spine, Bool.and_eq_true] at h
    obtain ⟨h1, h2⟩ := spine_split j n b h.2
    exact ⟨by rw [spine, h.1, h1]; rfl, h2⟩
  | j + 1, n, .skip, h => by rw [show j + 1 + n = (j + n) + 1 by omega] at h; simp [spine] at h
  | j + 1, n, .region .., h => by rw [show j + 1 + n = (j + n) + 1 by omega] at h; simp [spine] at h
  | j + 1, n, .cond .., h => by rw [show j + 1 + n = (j + n) + 1 by omega] at h; simp [spine] at h
  | j + 1, n, .block .., h => by rw [show j + 1 + n = (j + n) + 1 by omega] at h; simp [spine] at h
  | j + 1, n, .loop _, h => by rw [show j + 1 + n = (j + n) + 1 by omega] at h; simp [spine] at h
  | j + 1, n, .rangeFunc .., h => by rw [show j + 1 + n = (j + n) + 1 by omega] at h; simp [spine] at h
  | j + 1, n, .exit _, h => by rw [show j + 1 + n = (j + n) + 1 by omega] at h; simp [spine] at h
  | j + 1, n, .ret, h => by rw [show j + 1 + n = (j + n) + 1 by omega] at h; simp [spine] at h
  | j + 1, n, .scope _, h => by rw [show j + 1 + n = (j + n) + 1 by omega] at h; simp [spine] at h
  | j + 1, n, .label _, h => by rw [show j + 1 + n = (j + n) + 1 by omega] at h; simp [spine] at h
  | j + 1, n, .goto _, h => by rw [show j + 1 + n = (j + n) + 1 by omega] at h; simp [spine] at h
  | j + 1, n, .refuse _, h => by rw [show j + 1 + n = (j + n) + 1 by omega] at h; simp [spine] at h
theorem sub_way : ∀ (j n : Nat) (c : Code), sub c (way (j + n)) = sub (sub c (way j)) (way n) := fun j n c => by
  rw [show way (j + n) = way j ++ way n from (List.replicate_append_replicate (n := j) (m := n) (a := 1)).symm, sub_append]
structure OnWay (P : Program) (fn : Func) (W : World) (N : Env) (s : St m) (a : Act) (w : World) (F : Fr) (Ow : Own) (bm : Nat → Nat) : Prop where
  inv : Inv P s a.tmps w F N Ow bm
  len : s.boxes.length = fn.ntmps
  defers : a.defers = []
  bel : Go.RowKit.Below W.heap.size W w
  own : ∀ g, g < W.heap.size → Ow g = none
  z : ∀ g, g < W.heap.size → N.Z g = false
abbrev Good (W : World) : Ending → World → Prop := fun e w' => e = .returned (.bool true) ∧ Go.RowKit.Below W.heap.size W w'
abbrev yes : SV m × List (List (SV m)) := (.leaf (.bool true), [])
section
variable {D : Oracle m} {H : FuncId → Hints} {f : FuncId} {fn : Func} {c0 : Code} {W : World} {N : Env} {s : St m} {a : Act} {w : World} {F : Fr} {Ow : Own} {bm : Nat → Nat}
theorem OnWay.step {s' : St m} {a' : Act} {w' : World} (h : OnWay P fn W N s a w F Ow bm) (hst : Step P N fn.ntmps s' a w F Ow bm a' w') (hl : s'.boxes.length = fn.ntmps) :
    ∃ F' Ow' bm', OnWay P fn W N s' a' w' F' Ow' bm' ∧ Far N w F Ow w' F' Ow' := by
  obtain ⟨F1, O1, b1, k1, k2, k3, k4⟩ := hst
  refine ⟨F1, O1, b1, ⟨k1, hl, k4.trans h.defers, h.bel.trans ⟨k2.os, k2.tape, k2.output, k2.size, fun g hg => ?_⟩, fun g hg => ?_, h.z⟩, k2⟩
  · exact (k2.old g (Nat.lt_of_lt_of_le hg h.bel.size) (h.own g hg)).1 (h.z g hg)
  · exact (k2.old g (Nat.lt_of_lt_of_le hg h.bel.size) (h.own g hg)).2.2
theorem OnWay.back {a' : Act} {w' : World} {ex : Exit} {out : Out m} (h : OnWay P fn W N s a w F Ow bm) (ho : endK2 P fn 0 out = some yes) (he : Ends P N fn.ntmps fn.ntmps a w F Ow bm out ex a' w') : bodyPost P fn (Good W) ex a' w' := by
  replace ho := endK2_ref ho
  have fin : ∀ s' : St m, leaveV P fn 0 s' = some yes → Step P N fn.ntmps s' a w F Ow bm a' w' → s'.boxes.length = fn.ntmps → a'.defers = [] ∧ ∃ v, (results fn a'.tmps).run P w' = .ok v w' ∧ Good W (.returned v) w' := by
    intro s' hl hst hlen
    obtain ⟨F1, O1, b1, k, _⟩ := h.step hst hlen
    obtain ⟨_, _, _, u, O2, F2, l4, l5, _⟩ := k.inv.leave hl
    refine ⟨k.defers, u, l4, ?_, k.bel⟩
    have := l5.slot 0
    have hv := repL_bool (b := true) (w := w') (F := F2) (N := N) (by simpa [RepS, RepF] using this)
    rw [hv]
  cases out <;> cases ex <;> simp only [Ends] at he
  · exact fin _ ho he.1 he.2
  · simp [endK] at ho
  · exact fin _ ho he.1 he.2
variable (hP : P.follows .mixedOrders = true) (hD : DSound P N D) (hfn : P.funcs[f]? = some fn) (hc0 : fn.body = some c0)
include hP hD hfn hc0
omit hP hD in
theorem bodyOf_eq : bodyOf P f = c0 ∧ fnOf P f = fn := by
  unfold bodyOf fnOf; rw [hfn]; simp [hc0]
theorem stretch {j n : Nat} (hsp : spine (j + (n + 1)) c0 = true) (h : OnWay P fn W N s a w F Ow bm) {s1 : St m}
    (hrun : ∀ J : List Nat × St m → Option (SV m × List (List (SV m))), nameF P D H f [way (j + (n + 1))] 0 J (way j, s) = J (way (j + (n + 1)), s1))
    (next : ∀ a' w' F' Ow' bm', OnWay P fn W N s1 a' w' F' Ow' bm' → Far N w F Ow w' F' Ow' → (sub c0 (way (j + (n + 1)))).wp P (bodyPost P fn (Good W)) a' w') :
    (sub c0 (way j)).wp P (bodyPost P fn (Good W)) a w := by
  classical
  obtain ⟨e1, e2⟩ := bodyOf_eq hfn hc0
  obtain ⟨hs1, hs2⟩ := spine_split j (n + 1) c0 hsp
  have hr := hrun fun x => if x.2 = s1 then some yes else none
  simp only [if_true] at hr
  unfold nameF at hr
  simp only [e1, e2, way_rev] at hr
  rw [spine_cont j [] c0 hs1, spine_sub j c0 hs1] at hr
  refine spine_sound (L := fn.ntmps) hP hD rfl (Nat.le_refl _) n j _ s a w F Ow bm hs2 hr h.inv h.len (fun out ex a' w' ho _ he => h.back ho he) fun s' a' w' hJ hst hl => ?_
  have : s' = s1 := by
    by_cases hx : s' = s1
    · exact hx
    · simp [hx] at hJ
  subst this
  obtain ⟨F1, O1, b1, k, kf⟩ := h.step hst hl
  rw [← sub_way]
  exact next a' w' F1 O1 b1 k kf
theorem stretch_left {j n : Nat} (hsp : spine (j + (n + 1)) c0 = true) (h : OnWay P fn W N s a w F Ow bm)
    (hrun : ∀ J : List Nat × St m → Option (SV m × List (List (SV m))), nameF P D H f [way (j + (n + 1))] 0 J (way j, s) = some yes) :
    (sub c0 (way j)).wp P (bodyPost P fn (Good W)) a w := by
  obtain ⟨e1, e2⟩ := bodyOf_eq hfn hc0
  obtain ⟨hs1, hs2⟩ := spine_split j (n + 1) c0 hsp
  have hr := hrun fun x => none
  unfold nameF at hr
  simp only [e1, e2, way_rev] at hr
  rw [spine_cont j [] c0 hs1, spine_sub j c0 hs1] at hr
  exact spine_sound (L := fn.ntmps) hP hD rfl (Nat.le_refl _) n j _ s a w F Ow bm hs2 hr h.inv h.len (fun out ex a' w' ho _ he => h.back ho he) fun s' a' w' hJ _ _ => by simp at hJ
theorem stretch_last {j : Nat} (hsp : spine j c0 = true) (hnl : noLoop (sub c0 (way j)) = true) (h : OnWay P fn W N s a w F Ow bm)
    (hrun : ∀ J : List Nat × St m → Option (SV m × List (List (SV m))), nameF P D H f [] 0 J (way j, s) = some yes) :
    (sub c0 (way j)).wp P (bodyPost P fn (Good W)) a w := by
  obtain ⟨e1, e2⟩ := bodyOf_eq hfn hc0
  have hr := hrun fun x => none
  unfold nameF at hr
  simp only [e1, e2, way_rev] at hr
  rw [spine_cont j [] c0 hsp, spine_sub j c0 hsp, codeN_plain _ _ _ _ _ hnl (fun q => by simp)] at hr
  exact quick_sound (L := fn.ntmps) hP hD rfl (Nat.le_refl _) hr h.inv h.len fun out ex a' w' ho he => h.back ho he
end
end Go.Vs
end
