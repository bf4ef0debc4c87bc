/- A loop of the fast reading, one round opened, as a term that computes. -/
import Derived.Test.YtdnbagcbdagofaaVVsSub
namespace Go.Vs
variable {m : Bool}
section
variable {α β : Type}
theorem guarded_bind (b : Bool) (x : Option α) (f : α → Option β) : (guarded b x).bind f = guarded b (x.bind f) := by cases b <;> rfl
theorem branch_bind (b : Bool) (x y : Option α) (f : α → Option β) : (branch b x y).bind f = branch b (x.bind f) (y.bind f) := by cases b <;> rfl
theorem onBool_bind (v : (SV m)) (k : Bool → Option α) (f : α → Option β) : (onBool v k).bind f = onBool v fun b => (k b).bind f := by unfold onBool; split <;> rfl
theorem intK_bind (k0 : IntKind) (l : (Leaf m)) (k : Int → Option α) (f : α → Option β) : (intK k0 l k).bind f = intK k0 l fun n => (k n).bind f := by
  unfold intK; split
  · split <;> rfl
  · rfl
theorem boolK_bind (l : (Leaf m)) (k : Bool → Option α) (f : α → Option β) : (boolK l k).bind f = boolK l fun n => (k n).bind f := by unfold boolK; split <;> rfl
theorem strK_bind (l : (Leaf m)) (k : ByteArray → Option α) (f : α → Option β) : (strK l k).bind f = strK l fun n => (k n).bind f := by unfold strK; split <;> rfl
theorem slK_bind (l : (Leaf m)) (k : Fl m → List (List (Leaf m)) → Option α) (f : α → Option β) : (slK l k).bind f = slK l fun c n => (k c n).bind f := by unfold slK; split <;> rfl
theorem leafK_bind (P : Program) (t : TypeId) (l : (Leaf m)) (k : (Leaf m) → Option α) (f : α → Option β) : (leafK P t l k).bind f = leafK P t l fun n => (k n).bind f := by
  unfold leafK
  split
  · exact intK_bind _ _ _ _
  · exact boolK_bind _ _ _
  · exact strK_bind _ _ _
  · exact slK_bind _ _ _
  · rfl
theorem atK_bind (e : List (Leaf m)) (p : Nat) (k : (Leaf m) → Option α) (f : α → Option β) : (atK e p k).bind f = atK e p fun n => (k n).bind f := by unfold atK; split <;> rfl
theorem cellsAtK_bind (P : Program) : ∀ (ts : List TypeId) (e : List (Leaf m)) (p : Nat) (k : List (Leaf m) → Option α) (f : α → Option β), (cellsAtK P ts e p k).bind f = cellsAtK P ts e p fun n => (k n).bind f
  | [], e, p, k, f => rfl
  | t :: ts, e, p, k, f => by
    simp only [cellsAtK]
    rw [atK_bind]
    congr 1
    funext l
    rw [leafK_bind]
    congr 1
    funext l'
    exact cellsAtK_bind P ts e (p + 1) _ f
theorem partK_bind (P : Program) (t : TypeId) (e : List (Leaf m)) (p : Nat) (k : (SV m) → Option α) (f : α → Option β) : (partK P t e p k).bind f = partK P t e p fun n => (k n).bind f := by
  unfold partK
  split
  · rw [Option.bind_assoc]
    congr 1
    funext ts
    rw [Option.bind_assoc]
    congr 1
    funext n
    split
    · exact cellsAtK_bind P ts e p _ f
    · rfl
  · rw [atK_bind]
    congr 1
    funext l
    exact leafK_bind P t l _ f
theorem svLeafK_bind (v : (SV m)) (k : (Leaf m) → Option α) (f : α → Option β) : (svLeafK v k).bind f = svLeafK v fun n => (k n).bind f := by unfold svLeafK; split <;> rfl
theorem svSlK_bind (v : (SV m)) (k : Fl m → List (List (Leaf m)) → Option α) (f : α → Option β) : (svSlK v k).bind f = svSlK v fun c n => (k c n).bind f := by unfold svSlK; split <;> rfl
theorem svOwnK_bind (e : TypeId) (v : (SV m)) (k : List (List (Leaf m)) → Option α) (f : α → Option β) : (svOwnK e v k).bind f = svOwnK e v fun n => (k n).bind f := by
  unfold svOwnK; split
  · split <;> rfl
  · rfl
theorem svAggK_bind (v : (SV m)) (k : List (Leaf m) → Option α) (f : α → Option β) : (svAggK v k).bind f = svAggK v fun n => (k n).bind f := by unfold svAggK; split <;> rfl
theorem svNilK_bind (v : (SV m)) (k : Option α) (f : α → Option β) : (svNilK v k).bind f = svNilK v (k.bind f) := by unfold svNilK; split <;> rfl
theorem svTupK_bind (v : (SV m)) (k : List (SV m) → Option α) (f : α → Option β) : (svTupK v k).bind f = svTupK v fun n => (k n).bind f := by unfold svTupK; split <;> rfl
theorem headK_bind (l : List (SV m)) (k : (SV m) → List (SV m) → Option α) (f : α → Option β) : (headK l k).bind f = headK l fun v r => (k v r).bind f := by unfold headK; split <;> rfl
theorem lastK_bind (l : List (SV m)) (k : Option α) (f : α → Option β) : (lastK l k).bind f = lastK l (k.bind f) := by unfold lastK; split <;> rfl
theorem cast1K_bind (P : Program) (own : Bool) (t : TypeId) (v : (SV m)) (k : (SV m) → Option α) (f : α → Option β) : (cast1K P own t v k).bind f = cast1K P own t v fun n => (k n).bind f := by
  unfold cast1K
  split
  · split
    · exact svOwnK_bind _ _ _ _
    · exact svSlK_bind _ _ _
  · rw [svAggK_bind]
    congr 1
    funext cs
    rw [Option.bind_assoc]
    congr 1
    funext ts
    rw [guarded_bind]
    congr 1
    exact cellsAtK_bind P ts cs 0 _ f
  · exact svNilK_bind _ _ _
  · rw [svLeafK_bind]
    congr 1
    funext l
    exact leafK_bind P t l _ f
  · rfl
theorem castsK_bind (P : Program) : ∀ (ts : List TypeId) (l : List (SV m)) (k : List (SV m) → Option α) (f : α → Option β), (castsK P ts l k).bind f = castsK P ts l fun n => (k n).bind f
  | [], l, k, f => lastK_bind l _ f
  | t :: ts, l, k, f => by
    simp only [castsK]
    rw [headK_bind]
    congr 1
    funext v r
    rw [cast1K_bind]
    congr 1
    funext v'
    exact castsK_bind P ts r _ f
theorem castK_bind (P : Program) (own : Bool) (t : TypeId) (v : (SV m)) (k : (SV m) → Option α) (f : α → Option β) : (castK P own t v k).bind f = castK P own t v fun n => (k n).bind f := by
  unfold castK
  split
  · rw [svTupK_bind]
    congr 1
    funext vs
    exact castsK_bind P _ vs _ f
  · exact cast1K_bind P own t v k f
theorem likeK_bind (c d : (SV m)) (k : (SV m) → Option α) (f : α → Option β) : (likeK c d k).bind f = likeK c d fun n => (k n).bind f := by
  unfold likeK
  split
  · rw [svLeafK_bind]; congr 1; funext l; exact intK_bind _ _ _ _
  · rw [svLeafK_bind]; congr 1; funext l; exact boolK_bind _ _ _
  · rw [svLeafK_bind]; congr 1; funext l; exact strK_bind _ _ _
  · exact svSlK_bind _ _ _
  · exact svOwnK_bind _ _ _ _
  · rfl
theorem likesK_bind : ∀ (cs l : List (SV m)) (k : List (SV m) → Option α) (f : α → Option β), (likesK cs l k).bind f = likesK cs l fun n => (k n).bind f
  | [], l, k, f => lastK_bind l _ f
  | c :: cs, l, k, f => by
    simp only [likesK]
    rw [headK_bind]
    congr 1
    funext v r
    rw [likeK_bind]
    congr 1
    funext v'
    exact likesK_bind cs r _ f
theorem boxK_bind (w : Bool) (c d : List (SV m)) (k : List (SV m) → Option α) (f : α → Option β) : (boxK w c d k).bind f = boxK w c d fun n => (k n).bind f := by
  cases w
  · exact likesK_bind c d k f
  · rfl
theorem boxesK_bind : ∀ (ws : List Bool) (cs l : List (List (SV m))) (k : List (List (SV m)) → Option α) (f : α → Option β), (boxesK ws cs l k).bind f = boxesK ws cs l fun n => (k n).bind f
  | [], _, l, k, f => by simp only [boxesK]; unfold lastB; split <;> rfl
  | w :: ws, [], l, k, f => by simp only [boxesK]; unfold lastB; split <;> rfl
  | w :: ws, c :: cs, l, k, f => by
    simp only [boxesK]
    unfold headB
    split
    · rw [boxK_bind]
      congr 1
      funext v'
      exact boxesK_bind ws cs _ _ f
    · rfl
theorem atSV_bind (cs : List (SV m)) (p : Nat) (k : (SV m) → Option α) (f : α → Option β) : (atSV cs p k).bind f = atSV cs p fun n => (k n).bind f := by unfold atSV; split <;> rfl
theorem dropK_bind (P : Program) (t : TypeId) (c : (SV m)) (k : (SV m) → Option α) (f : α → Option β) : (dropK P t c k).bind f = dropK P t c fun n => (k n).bind f := by
  unfold dropK; split
  · exact cast1K_bind P false t _ k f
  · rfl
theorem resK_bind (P : Program) (own : Bool) (dst : Option Tmp) (t : TypeId) (v : (SV m)) (k : (SV m) → Option α) (f : α → Option β) : (resK P own dst t v k).bind f = resK P own dst t v fun n => (k n).bind f := by
  unfold resK; split
  · rfl
  · exact castK_bind P own t v k f
variable {P : Program} {D : (Oracle m)}
theorem call2K_bind (s : (St m)) (own pu : Bool) (g : FuncId) (args : List (SV m)) (dst : Option Tmp) (t : TypeId) (k : (St m) → Option α) (f : α → Option β) : (call2K P D s own pu g args dst t k).bind f = call2K P D s own pu g args dst t fun n => (k n).bind f := by
  unfold call2K
  rw [guarded_bind]
  congr 1
  split
  · rw [guarded_bind, Option.bind_assoc]
    congr 1
    congr 1
    funext r
    exact resK_bind _ _ _ _ _ _ _
  · rw [Option.bind_assoc]
    congr 1
    funext cs
    rw [guarded_bind, Option.bind_assoc]
    congr 1
    congr 1
    funext r
    rw [boxesK_bind]
    congr 1
    funext bs
    exact resK_bind _ _ _ _ _ _ _
theorem exec_bind {nt : Nat} {mv pu ta : Bool} {o : Oper} {s : (St m)} (k : (St m) → Option α) (f : α → Option β) : (execK P D nt mv pu ta o s k).bind f = execK P D nt mv pu ta o s fun n => (k n).bind f := by
  rw [exec_eff, exec_eff, Option.bind_assoc]
theorem g_bind (x : Option (Bool × (SV m))) (k : (SV m) → Option α) (f : α → Option β) : (x.bind fun p => guarded p.1 (k p.2)).bind f = x.bind fun p => guarded p.1 ((k p.2).bind f) := by
  rw [Option.bind_assoc]; congr 1; funext p; exact guarded_bind _ _ _
theorem exec2_bind {nt : Nat} {mv pu ta : Bool} {o : Oper} {s : (St m)} (k : (St m) → Option α) (f : α → Option β) : (exec2K P D nt mv pu ta o s k).bind f = exec2K P D nt mv pu ta o s fun n => (k n).bind f := by
  cases hop : o.op
  case pick c x z =>
    simp only [exec2K, hop]
    rw [onBool_bind]
    congr 1
    funext b
    rw [branch_bind]
  case load t x =>
    simp only [exec2K, hop]
    split
    · exact partK_bind P t _ _ _ f
    · split
      · rw [Option.bind_assoc]
        congr 1
        funext cs
        rw [atSV_bind]
        congr 1
        funext c
        exact dropK_bind P t c _ f
      · exact exec_bind k f
    · exact exec_bind k f
  case store t x y =>
    simp only [exec2K, hop]
    split
    · rw [Option.bind_assoc]
      congr 1
      funext cs
      rw [Option.bind_assoc]
      congr 1
      funext n
      rw [guarded_bind, guarded_bind]
    · exact exec_bind k f
  case makeSlice t l c =>
    simp only [exec2K, hop]
    split
    · split
      · rw [guarded_bind, Option.bind_assoc]
        congr 1
        congr 1
        funext p
        exact guarded_bind _ _ _
      · rfl
    · rfl
  case binOp op t x z u => simp only [exec2K, hop]; exact g_bind _ (fun v => k (s.put o.dst v)) f
  case convert src dst x => simp only [exec2K, hop]; exact g_bind _ (fun v => k (s.put o.dst v)) f
  case slice t x lo hi mx =>
    cases mx with
    | some m => simp only [exec2K, hop]; exact exec_bind k f
    | none =>
      simp only [exec2K, hop]
      rw [Option.bind_assoc]; congr 1; funext l
      rw [Option.bind_assoc]; congr 1; funext h
      rw [Option.bind_assoc]; congr 1; funext p
      exact guarded_bind _ _ _
  case indexAddr t x i => simp only [exec2K, hop]; exact g_bind _ (fun v => k (s.put o.dst v)) f
  case index t x i => simp only [exec2K, hop]; exact g_bind _ (fun v => k (s.put o.dst v)) f
  case call c =>
    cases hc : c.callee with
    | invoke r m => simp only [exec2K, hop, hc]; exact exec_bind k f
    | value g =>
      simp only [exec2K, hop, hc]
      split
      · rw [guarded_bind, call2K_bind]
      · rfl
    | builtin b =>
      cases b
      case append =>
        simp only [exec2K, hop, hc]
        split
        · rename_i x z _
          exact g_bind _ (fun v => k ((s.take x).put o.dst v)) f
        · rfl
      all_goals (simp only [exec2K, hop, hc]; exact exec_bind k f)
  all_goals (simp only [exec2K, hop]; exact exec_bind k f)
theorem step2_bind {nt : Nat} {mv pu ta : Bool} {ops : Array Oper} {o : Oper} {s : (St m)} (k : (St m) → Option α) (f : α → Option β) : (step2K P D nt mv pu ta ops o s k).bind f = step2K P D nt mv pu ta ops o s fun n => (k n).bind f := by
  unfold step2K
  split
  · exact exec2_bind k f
  · split
    · unfold guard2
      split
      · rw [branch_bind, exec2_bind]
      · rfl
      · rfl
    · rfl
theorem steps2_bind {nt : Nat} {mv pu ta : Nat → Bool} {ops : Array Oper} : ∀ (l : List Oper) (i : Nat) (s : (St m)) (k : (St m) → Option α) (f : α → Option β), (steps2K P D nt mv pu ta ops l i s k).bind f = steps2K P D nt mv pu ta ops l i s fun n => (k n).bind f
  | [], i, s, k, f => rfl
  | o :: l, i, s, k, f => by
    simp only [steps2K]
    rw [step2_bind]
    congr 1
    funext s'
    exact steps2_bind l (i + 1) s' k f
end

theorem code2_bind {P : Program} {D : (Oracle m)} {H : Hints} {loop : ((St m) → Option (Out m)) → ((St m) → Option (St m)) → (St m) → Option (Out m)} : ∀ (c : Code) (blk : Nat) {β γ : Type} (s : (St m)) (k : (Out m) → Option β) (f : β → Option γ), (code2K P D H loop blk c s k).bind f = code2K P D H loop blk c s fun o => (k o).bind f := by
  intro c
  induction c with
  | skip => intro blk β γ s k f; rfl
  | region id ops draw =>
    intro blk β γ s k f
    simp only [code2K, forceSt_eq]
    rw [guarded_bind, steps2_bind]
  | seq a b iha ihb =>
    intro blk β γ s k f
    simp only [code2K]
    rw [iha]
    congr 1
    funext o
    cases o with
    | norm s' => exact ihb blk s' k f
    | exit id s' => rfl
    | ret s' => rfl
  | cond x a b iha ihb =>
    intro blk β γ s k f
    simp only [code2K, forceSt_eq]
    rw [onBool_bind]
    congr 1
    funext t
    rw [branch_bind, iha, ihb]
  | block id a ih =>
    intro blk β γ s k f
    simp only [code2K]
    rw [ih]
    congr 1
    funext o
    cases o with
    | norm s' => rfl
    | exit id' s' => simp only [blockK]; split <;> rfl
    | ret s' => rfl
  | loop a ih => intro blk β γ s k f; simp only [code2K]; rw [Option.bind_assoc]
  | exit id => intro blk β γ s k f; rfl
  | ret => intro blk β γ s k f; rfl
  | _ => intro blk β γ s k f; rfl

/-- What goes on behind a round. -/
def loopK (ts bs : List Nat) (L : (St m) → Option (Out m)) : (Out m) → Option (Out m)
  | .norm s => (s.again ts bs).bind L
  | .exit id s => some (.exit id s)
  | .ret s => some (.ret s)
/-- One round, and what goes on behind it. -/
def roundV (P : Program) (D : (Oracle m)) (H : Hints) (loop : ((St m) → Option (Out m)) → ((St m) → Option (St m)) → (St m) → Option (Out m)) (blk : Nat) (c : Code) (L : (St m) → Option (Out m)) (s : (St m)) : Option (Out m) :=
  (s.again (H.clear blk) (H.drop blk)).bind fun s => code2K P D H loop blk c s (loopK (H.clear blk) (H.drop blk) L)
/-- The loop. -/
noncomputable def loopV (P : Program) (D : (Oracle m)) (H : Hints) (blk : Nat) (c : Code) : (St m) → Option (Out m) := limR (fun s => code2K P D H limR blk c s some) (fun s => s.again (H.clear blk) (H.drop blk))

theorem foldl_set_idem {α : Type} (x : α) (ts : List Nat) : ∀ (l : List α), (∀ t ∈ ts, l[t]? = none ∨ l[t]? = some x) → ts.foldl (fun l t => l.set t x) l = l := by
  induction ts with
  | nil => intro l _; rfl
  | cons t ts ih =>
    intro l h
    have h0 : l.set t x = l := by
      rcases h t (by simp) with h | h
      · rw [List.set_eq_of_length_le (by simpa using h)]
      · apply List.ext_getElem?
        intro i
        by_cases hi : t = i
        · subst hi
          rw [List.getElem?_set_self (List.getElem?_eq_some_iff.1 h).1, h]
        · rw [List.getElem?_set_ne hi]
    rw [List.foldl_cons, h0]
    exact ih l fun u hu => h u (by simp [hu])
theorem foldl_set_get {α : Type} (x : α) (ts : List Nat) : ∀ (l : List α), ∀ t ∈ ts, (ts.foldl (fun l t => l.set t x) l)[t]? = none ∨ (ts.foldl (fun l t => l.set t x) l)[t]? = some x := by
  have keep : ∀ (ts : List Nat) (l : List α) (t : Nat), (l[t]? = none ∨ l[t]? = some x) → ((ts.foldl (fun l t => l.set t x) l)[t]? = none ∨ (ts.foldl (fun l t => l.set t x) l)[t]? = some x) := by
    intro ts
    induction ts with
    | nil => intro l t h; exact h
    | cons u ts ih =>
      intro l t h
      rw [List.foldl_cons]
      refine ih _ t ?_
      by_cases hu : u = t
      · subst hu
        by_cases hl : u < l.length
        · right; exact List.getElem?_set_self hl
        · left; exact List.getElem?_eq_none (by simpa using hl)
      · rw [List.getElem?_set_ne hu]; exact h
  induction ts with
  | nil => intro l t h; simp at h
  | cons u ts ih =>
    intro l t ht
    rw [List.foldl_cons]
    by_cases h : t ∈ ts
    · exact ih _ t h
    · have : t = u := by
        rcases List.mem_cons.1 ht with h' | h'
        · exact h'
        · exact absurd h' h
      subst this
      refine keep ts _ t ?_
      by_cases hl : t < l.length
      · right; exact List.getElem?_set_self hl
      · left; exact List.getElem?_eq_none (by simpa using hl)
theorem forget_idem (s : (St m)) (ts bs : List Nat) : (s.forget ts bs).forget ts bs = s.forget ts bs := by
  unfold St.forget
  congr 1
  · exact foldl_set_idem _ _ _ (foldl_set_get _ _ _)
  · exact foldl_set_idem _ _ _ (foldl_set_get _ _ _)
theorem again_idem {s c : (St m)} {ts bs : List Nat} (h : s.again ts bs = some c) : c.again ts bs = some c := by
  unfold St.again at h ⊢
  obtain ⟨h1, h2⟩ := guarded_eq h
  simp only [Option.some.injEq] at h2
  subst h2
  rw [forget_idem, h1]
  rfl
theorem loopV_again (P : Program) (D : (Oracle m)) (H : Hints) (blk : Nat) (c : Code) (s : (St m)) : loopV P D H blk c s = (s.again (H.clear blk) (H.drop blk)).bind (loopV P D H blk c) := by
  unfold loopV
  rw [limR_open]
  cases h : s.again (H.clear blk) (H.drop blk) with
  | none => rfl
  | some c' =>
    simp only [Option.bind_some]
    rw [limR_open _ _ c', again_idem h]
    rfl
/-- A loop, one round opened. -/
theorem loopV_open (P : Program) (D : (Oracle m)) (H : Hints) (blk : Nat) (c : Code) (s : (St m)) : loopV P D H blk c s = roundV P D H limR blk c (loopV P D H blk c) s := by
  show limR _ _ s = _
  rw [limR_open]
  unfold roundV
  congr 1
  funext s'
  rw [code2_bind]
  congr 1
  funext o
  cases o with
  | norm s2 => exact loopV_again P D H blk c s2
  | exit id s2 => rfl
  | ret s2 => rfl
end Go.Vs
