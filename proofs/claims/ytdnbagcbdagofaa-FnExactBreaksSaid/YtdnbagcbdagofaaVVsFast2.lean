/- The fast reading of operations, code and functions; where it tells something, the shadow runner tells the same. -/
import Derived.Test.YtdnbagcbdagofaaVVsFast
namespace Go.Vs
variable {m : Bool}
section
variable {β : Type}
def resK (P : Program) (own : Bool) (dst : Option Tmp) (t : TypeId) (v : (SV m)) (k : (SV m) → Option β) : Option β := match dst with | none => k v | some _ => castK P own t v k
/-- The boxes that are rows. -/
def rowIds (args : List (SV m)) : List Nat := args.flatMap fun | .bsl b _ _ _ => [b] | _ => []
def call2K (P : Program) (D : (Oracle m)) (s : (St m)) (own pureHint : Bool) (f : FuncId) (args : List (SV m)) (dst : Option Tmp) (t : TypeId) (k : (St m) → Option β) : Option β :=
  guarded (args.all SV.handed) <|
    match pureHint with
    | true => guarded (idsOf args).isEmpty ((D f args []).bind fun r => resK P own dst t r.1 fun v => k (s.put dst v))
    | false => (boxesAt s.boxes (idsOf args)).bind fun cs => guarded (cs.all (·.all SV.flat)) <|
        (D f (args.map (SV.ren (placeIn (idsOf args)))) cs).bind fun r => boxesK ((idsOf args).map (rowIds args).contains) cs r.2 fun bs => resK P own dst t r.1 fun v => k (({ s with boxes := putBoxes s.boxes (idsOf args) bs } : (St m)).put dst v)

/-- A slot's bool, known now. -/
def refine (s : (St m)) (x : Operand) (b : Bool) : (St m) := match x with | .tmp t => s.put (some t) (.leaf (.bool b)) | _ => s
def guard2 (s : (St m)) (t : Tmp) (want : Bool) (x y : (St m) → Option β) : Option β :=
  match s.tmps.getD t .any with
  | .leaf (.bool b) => branch (b == want) (x (refine s (.tmp t) want)) (y (refine s (.tmp t) !want))
  | .skip => y s
  | _ => none
/-- A row, cells of it written. -/
def putAt (cs : List (SV m)) (p : Nat) (vs : List (SV m)) : List (SV m) := cs.take p ++ vs ++ cs.drop (p + vs.length)
def exec2K (P : Program) (D : (Oracle m)) (nt : Nat) (mv pu ta : Bool) (o : Oper) (s : (St m)) (k : (St m) → Option β) : Option β :=
  match o.op with
  | .pick c a b => onBool (s.eval c) fun t => branch t (k ((refine s c true).put o.dst ((refine s c true).eval a).drop)) (k ((refine s c false).put o.dst ((refine s c false).eval b).drop))
  | .load t x => (match s.eval x with
    | .eptr _ e p => partK P t e p fun v => k (s.put o.dst v)
    | .ptr b p => (match isAggT P t, mv with
      | false, false => (s.box b).bind fun cs => atSV cs p fun c => dropK P t c fun v => k (s.put o.dst v)
      | _, _ => execK P D nt mv pu ta o s k)
    | _ => execK P D nt mv pu ta o s k)
  | .store t x y => (match s.eval x with
    | .ptr b p => (s.box b).bind fun cs => (sizeT P t).bind fun n => guarded (s.eval y).flat (guarded (n == (s.eval y).cells.length && decide (p + n ≤ cs.length)) (k (((s.take y).setBox b (some (putAt cs p (s.eval y).cells))).put o.dst .skip)))
    | _ => execK P D nt mv pu ta o s k)
  | .makeSlice t l c => (match o.dst with
    | some d => (match s.box d with
      | none => guarded (decide (d < nt)) ((makeG P t (s.eval l) (s.eval c)).bind fun p => guarded p.1 (k ((s.setBox d (some p.2.2)).put o.dst (.bsl d p.2.1.1 0 p.2.1.2))))
      | some _ => none)
    | none => none)
  | .binOp op t x y _ => (binG P op t (s.eval x) (s.eval y)).bind fun p => guarded p.1 (k (s.put o.dst p.2))
  | .convert src dst x => (convG P src dst (s.eval x)).bind fun p => guarded p.1 (k (s.put o.dst p.2))
  | .slice t x lo hi none => (optG s.eval lo).bind fun l => (optG s.eval hi).bind fun h => (sliceG P t (s.eval x) l.2 h.2).bind fun p => guarded (l.1 && h.1 && p.1) (k (s.put o.dst p.2))
  | .indexAddr t x i => (indexAddrG P t (s.eval x) (s.eval i)).bind fun p => guarded p.1 (k (s.put o.dst p.2))
  | .index t x i => (indexG P t (s.eval x) (s.eval i)).bind fun p => guarded p.1 (k (s.put o.dst p.2))
  | .call c => (match c.callee with
    | .builtin .append => (match c.args.toList with
      | [x, y] => (appendG P c.argTypes (s.eval x) (s.eval y)).bind fun p => guarded p.1 (k ((s.take x).put o.dst p.2))
      | _ => none)
    | .value g => (match s.eval g with
      | .fn f caps => guarded (decide (operandTmps c.args.toList).Nodup) (call2K P D (s.takes (takenL ta c.args.toList)) mv pu f (c.args.toList.map (argV ta s.eval) ++ caps) o.dst o.type k)
      | _ => none)
    | _ => execK P D nt mv pu ta o s k)
  | _ => execK P D nt mv pu ta o s k

def step2K (P : Program) (D : (Oracle m)) (nt : Nat) (mv pu ta : Bool) (ops : Array Oper) (o : Oper) (s : (St m)) (k : (St m) → Option β) : Option β :=
  match o.guard with
  | none => exec2K P D nt mv pu ta o s k
  | some (j, want) => match (ops[j]?).bind (·.dst) with
    | some t => guard2 s t want (fun s => exec2K P D nt mv pu ta o s k) (fun s => k (s.put o.dst .skip))
    | none => none
def steps2K (P : Program) (D : (Oracle m)) (nt : Nat) (mv pu ta : Nat → Bool) (ops : Array Oper) : List Oper → Nat → (St m) → ((St m) → Option β) → Option β
  | [], _, s, k => k s
  | o :: r, i, s, k => step2K P D nt (mv i) (pu i) (ta i) ops o s fun s' => steps2K P D nt mv pu ta ops r (i + 1) s' k
end

/-! A state worked out, slot by slot, before one goes on. -/
section
variable {β : Type}
def forceV (v : (SV m)) (k : (SV m) → Option β) : Option β :=
  match v with
  | .any => k .any
  | .skip => k .skip
  | .leaf l => k (.leaf l)
  | .own e es => k (.own e es)
  | .agg cs => k (.agg cs)
  | .ptr b o => k (.ptr b o)
  | .eptr c e o => k (.eptr c e o)
  | .bsl b z lo n => k (.bsl b z lo n)
  | .nilptr => k .nilptr
  | .nilface => k .nilface
  | .fn f caps => k (.fn f caps)
  | .tup vs => k (.tup vs)
theorem forceV_eq (v : (SV m)) (k : (SV m) → Option β) : forceV v k = k v := by cases v <;> rfl
def forceL : List (SV m) → (List (SV m) → Option β) → Option β
  | [], k => k []
  | v :: l, k => forceV v fun v' => forceL l fun l' => k (v' :: l')
theorem forceL_eq : ∀ (l : List (SV m)) (k : List (SV m) → Option β), forceL l k = k l
  | [], _ => rfl
  | v :: l, k => by simp only [forceL, forceV_eq, forceL_eq l]
def forceB : List (Option (List (SV m))) → (List (Option (List (SV m))) → Option β) → Option β
  | [], k => k []
  | none :: l, k => forceB l fun l' => k (none :: l')
  | some c :: l, k => forceB l fun l' => k (some c :: l')
theorem forceB_eq : ∀ (l : List (Option (List (SV m)))) (k : List (Option (List (SV m))) → Option β), forceB l k = k l
  | [], _ => rfl
  | none :: l, k => by simp only [forceB, forceB_eq l]
  | some c :: l, k => by simp only [forceB, forceB_eq l]
def forceSt (s : (St m)) (k : (St m) → Option β) : Option β := forceL s.tmps fun t => forceB s.boxes fun b => k ⟨t, b⟩
theorem forceSt_eq (s : (St m)) (k : (St m) → Option β) : forceSt s k = k s := by unfold forceSt; rw [forceL_eq, forceB_eq]
end
def code2K {β : Type} (P : Program) (D : (Oracle m)) (H : Hints) (loop : ((St m) → Option (Out m)) → ((St m) → Option (St m)) → (St m) → Option (Out m)) : Nat → Code → (St m) → ((Out m) → Option β) → Option β
  | _, .skip, s, k => k (.norm s)
  | _, .region id ops draw, s, k => guarded (!draw || okRegion (H.mv id) (H.pure id) (H.take id) ops) (steps2K P D H.nt (H.mv id) (H.pure id) (H.take id) ops ops.toList 0 s fun s' => forceSt (s'.tidy (H.after id) (H.afterB id)) fun s' => k (.norm s'))
  | blk, .seq a b, s, k => code2K P D H loop blk a s (seqK (fun s' => code2K P D H loop blk b s' k) k)
  | blk, .cond c a b, s, k => onBool (s.eval c) fun t => branch t (forceSt (s.dropC H.condA c) fun s => code2K P D H loop blk a s k) (forceSt (s.dropC H.condB c) fun s => code2K P D H loop blk b s k)
  | _, .block id a, s, k => code2K P D H loop id a s (blockK id k)
  | blk, .loop a, s, k => (loop (fun s => code2K P D H loop blk a s some) (fun s => s.again (H.clear blk) (H.drop blk)) s).bind k
  | _, .exit id, s, k => k (.exit id s)
  | _, .ret, s, k => k (.ret s)
  | _, _, _, _ => none
def run2V (P : Program) (D : (Oracle m)) (H : FuncId → Hints) (loop : ((St m) → Option (Out m)) → ((St m) → Option (St m)) → (St m) → Option (Out m)) : (Oracle m) := fun f args boxes =>
  match P.funcs[f]? with
  | some fn => match fn.body with
    | some c => code2K P D ((H f).fit fn.ntmps) loop 0 c (enterV fn args boxes) (endK P fn boxes.length)
    | none => none
  | none => none

/-! ### It tells the same -/
section
variable {P : Program} {D : (Oracle m)} {β : Type}

theorem exec_mono {nt : Nat} {mv pu ta : Bool} {o : Oper} {s : (St m)} {k1 k2 : (St m) → Option β} {y : β} (hk : ∀ s, k2 s = some y → k1 s = some y) (h : execK P D nt mv pu ta o s k2 = some y) : execK P D nt mv pu ta o s k1 = some y := by
  rw [exec_eff, Option.bind_eq_some_iff] at h ⊢
  obtain ⟨e, he, h⟩ := h
  exact ⟨e, he, hk _ h⟩

theorem resK_eq {own : Bool} {dst : Option Tmp} {t : TypeId} {v : (SV m)} {k : (SV m) → Option β} {y : β} (h : resK P own dst t v k = some y) : k v = some y := by
  unfold resK at h
  split at h
  · exact h
  · exact castK_eq h

theorem call2_ref {s : (St m)} {own pu : Bool} {f : FuncId} {args : List (SV m)} {dst : Option Tmp} {t : TypeId} {k1 k2 : (St m) → Option β} {y : β} (hk : ∀ s, k2 s = some y → k1 s = some y) (h : call2K P D s own pu f args dst t k2 = some y) : callK D s pu f args dst k1 = some y := by
  unfold call2K at h
  obtain ⟨h1, h⟩ := guarded_eq h
  unfold callK
  rw [h1]
  simp only [guarded]
  split at h
  · obtain ⟨h2, h⟩ := guarded_eq h
    rw [if_pos rfl, if_pos (by simpa using h2)]
    rw [Option.bind_eq_some_iff] at h ⊢
    obtain ⟨r, hr, h⟩ := h
    exact ⟨r, hr, hk _ (resK_eq h)⟩
  · rw [if_neg (by simp)]
    rw [Option.bind_eq_some_iff] at h ⊢
    obtain ⟨cs, hcs, h⟩ := h
    obtain ⟨h2, h⟩ := guarded_eq h
    refine ⟨cs, hcs, ?_⟩
    rw [h2]
    simp only
    rw [Option.bind_eq_some_iff] at h ⊢
    obtain ⟨r, hr, h⟩ := h
    refine ⟨r, hr, hk _ ?_⟩
    have h3 := boxesK_eq _ cs r.2 _ y h
    exact resK_eq h3

theorem gk {x : Option (Bool × (SV m))} {x' : Option (SV m)} {k1 k2 : (SV m) → Option β} {y : β} (hx : ∀ p, x = some p → p.1 = true → x' = some p.2) (hk : ∀ v, k2 v = some y → k1 v = some y) (h : x.bind (fun p => guarded p.1 (k2 p.2)) = some y) : x'.bind k1 = some y := by
  rw [Option.bind_eq_some_iff] at h
  obtain ⟨p, hp, h⟩ := h
  obtain ⟨h1, h2⟩ := guarded_eq h
  rw [hx p hp h1, Option.bind_some]
  exact hk _ h2

theorem refine_eq {s : (St m)} {x : Operand} {b : Bool} (h : s.eval x = .leaf (.bool b)) : refine s x b = s := by
  cases x with
  | tmp t =>
    simp only [refine, St.put]
    have h' : s.tmps.getD t .any = .leaf (.bool b) := h
    have hl : s.tmps[t]? = some (.leaf (.bool b)) := by
      rw [List.getD_eq_getElem?_getD] at h'
      cases hx : s.tmps[t]? with
      | none => rw [hx] at h'; simp at h'
      | some v => rw [hx] at h'; simpa using h'
    have : s.tmps.set t (.leaf (.bool b)) = s.tmps := by
      apply List.ext_getElem?
      intro i
      by_cases hi : t = i
      · subst hi; rw [List.getElem?_set_self (List.getElem?_eq_some_iff.1 hl).1, hl]
      · rw [List.getElem?_set_ne hi]
    rw [this]
  | _ => rfl
theorem guard2_eq {s : (St m)} {t : Tmp} {want : Bool} {x y : (St m) → Option β} : guard2 s t want x y = onGuard (s.tmps.getD t .any) want (x s) (y s) := by
  unfold guard2 onGuard
  have hr : ∀ b, s.tmps.getD t .any = .leaf (.bool b) → refine s (.tmp t) b = s := fun b hb => refine_eq (x := .tmp t) hb
  generalize s.tmps.getD t .any = v at hr
  cases v with
  | leaf l =>
    cases l with
    | bool b =>
      simp only [branch_eq]
      by_cases hw : b = want
      · subst hw; simp [hr b rfl]
      · have : b = !want := by cases b <;> cases want <;> simp_all
        subst this
        simp [hr _ rfl]
    | _ => rfl
  | _ => rfl
theorem exec2_ref {nt : Nat} {mv pu ta : Bool} {o : Oper} {s : (St m)} {k1 k2 : (St m) → Option β} {y : β} (hk : ∀ s, k2 s = some y → k1 s = some y) (h : exec2K P D nt mv pu ta o s k2 = some y) : execK P D nt mv pu ta o s k1 = some y := by
  cases hop : o.op
  case load t x =>
    simp only [exec2K, hop] at h
    split at h
    · rename_i c e p hx
      obtain ⟨v, hv, h⟩ := partK_eq h
      simp only [execK, hop, hx, hv, Option.bind_some]
      exact hk _ h
    · rename_i b p hx
      split at h
      · rename_i ha
        rw [Option.bind_eq_some_iff] at h
        obtain ⟨cs, hcs, h⟩ := h
        obtain ⟨c, hc, h⟩ := atSV_eq h
        have h := dropK_eq h
        simp only [execK, hop, hx, hcs, Option.bind_some]
        rw [if_neg (by simp [ha]), hc]
        exact hk _ h
      · exact exec_mono hk h
    · exact exec_mono hk h
  case store t x y =>
    simp only [exec2K, hop] at h
    split at h
    · rename_i b p hx
      rw [Option.bind_eq_some_iff] at h
      obtain ⟨cs, hcs, h⟩ := h
      rw [Option.bind_eq_some_iff] at h
      obtain ⟨n, hn, h⟩ := h
      obtain ⟨h1, h⟩ := guarded_eq h
      obtain ⟨h2, h⟩ := guarded_eq h
      simp only [Bool.and_eq_true, beq_iff_eq, decide_eq_true_eq] at h2
      simp only [execK, hop, hx, hcs, hn, Option.bind_some, h1, guarded]
      rw [if_pos h2]
      have := hk _ h
      rw [putAt, ← h2.1] at this
      exact this
    · exact exec_mono hk h
  case makeSlice t l c =>
    simp only [exec2K, hop] at h
    simp only [execK, hop]
    split at h
    · rename_i d hd
      rw [hd]
      simp only
      split at h
      · rename_i hb
        rw [hb]
        simp only
        obtain ⟨h1, h⟩ := guarded_eq h
        rw [h1]
        simp only [guarded]
        rw [Option.bind_eq_some_iff] at h ⊢
        obtain ⟨p, hp, h⟩ := h
        obtain ⟨h2, h⟩ := guarded_eq h
        refine ⟨p.2, makeG_V hp h2, ?_⟩
        rw [hd] at h
        exact hk _ h
      · simp at h
    · simp at h
  case pick c x z =>
    simp only [exec2K, hop] at h
    simp only [execK, hop]
    obtain ⟨b, hb, h⟩ := onBool_eq h
    rw [hb]
    simp only [onBool]
    cases b
    · simp only [branch, refine_eq hb] at h ⊢; exact hk _ h
    · simp only [branch, refine_eq hb] at h ⊢; exact hk _ h
  case binOp op t x z u =>
    simp only [exec2K, hop] at h
    simp only [execK, hop]
    exact gk (fun p hp h1 => binG_V hp h1) (fun v => hk _) h
  case convert src dst x =>
    simp only [exec2K, hop] at h
    simp only [execK, hop]
    exact gk (fun p hp h1 => convG_V hp h1) (fun v => hk _) h
  case slice t x lo hi mx =>
    cases mx with
    | some m => simp only [exec2K, hop] at h; exact exec_mono hk h
    | none =>
      simp only [exec2K, hop] at h
      simp only [execK, hop]
      rw [Option.bind_eq_some_iff] at h
      obtain ⟨l, hl, h⟩ := h
      rw [Option.bind_eq_some_iff] at h
      obtain ⟨r, hr, h⟩ := h
      rw [Option.bind_eq_some_iff] at h
      obtain ⟨p, hp, h⟩ := h
      obtain ⟨h1, h2⟩ := guarded_eq h
      simp only [Bool.and_eq_true] at h1
      rw [optG_V hl h1.1.1, Option.bind_some, optG_V hr h1.1.2, Option.bind_some, sliceG_V hp h1.2, Option.bind_some]
      exact hk _ h2
  case indexAddr t x i =>
    simp only [exec2K, hop] at h
    simp only [execK, hop]
    exact gk (fun p hp h1 => indexAddrG_V hp h1) (fun v => hk _) h
  case index t x i =>
    simp only [exec2K, hop] at h
    simp only [execK, hop]
    exact gk (fun p hp h1 => indexG_V hp h1) (fun v => hk _) h
  case call c =>
    cases hc : c.callee with
    | invoke r m => simp only [exec2K, hop, hc] at h; exact exec_mono hk h
    | value g =>
      simp only [exec2K, hop, hc] at h
      simp only [execK, hop, hc]
      split at h
      · rename_i f caps hg
        obtain ⟨h1, h⟩ := guarded_eq h
        rw [hg]
        simp only [h1, guarded]
        exact call2_ref hk h
      · simp at h
    | builtin b =>
      cases b
      case append =>
        simp only [exec2K, hop, hc] at h
        simp only [execK, hop, hc]
        split at h
        · rename_i x z hargs
          rw [hargs]
          simp only
          exact gk (fun p hp h1 => appendG_V hp h1) (fun v => hk _) h
        · simp at h
      all_goals (simp only [exec2K, hop, hc] at h; exact exec_mono hk h)
  all_goals (simp only [exec2K, hop] at h; exact exec_mono hk h)

theorem step2_ref {nt : Nat} {mv pu ta : Bool} {ops : Array Oper} {o : Oper} {s : (St m)} {k1 k2 : (St m) → Option β} {y : β} (hk : ∀ s, k2 s = some y → k1 s = some y) (h : step2K P D nt mv pu ta ops o s k2 = some y) : stepK P D nt mv pu ta ops o s k1 = some y := by
  unfold step2K at h
  unfold stepK
  cases hg : o.guard with
  | none => rw [hg] at h; exact exec2_ref hk h
  | some g =>
    obtain ⟨j, want⟩ := g
    rw [hg] at h
    simp only at h ⊢
    cases hj : (ops[j]?).bind (·.dst) with
    | none => rw [hj] at h; simp at h
    | some t =>
      rw [hj] at h
      simp only at h ⊢
      rw [guard2_eq] at h
      unfold onGuard at h ⊢
      split at h
      · rename_i b hb
        rw [branch_eq] at h ⊢
        split at h
        · rename_i hbw
          rw [if_pos hbw]
          exact exec2_ref hk h
        · rename_i hbw
          rw [if_neg hbw]
          exact hk _ h
      · exact hk _ h
      · simp at h
theorem steps2_ref {nt : Nat} {mv pu ta : Nat → Bool} {ops : Array Oper} {y : β} : ∀ (l : List Oper) (i : Nat) (s : (St m)) (k1 k2 : (St m) → Option β), (∀ s, k2 s = some y → k1 s = some y) → steps2K P D nt mv pu ta ops l i s k2 = some y → stepsK P D nt mv pu ta ops l i s k1 = some y
  | [], i, s, k1, k2, hk, h => hk _ h
  | o :: l, i, s, k1, k2, hk, h => by
    simp only [steps2K] at h
    simp only [stepsK]
    exact step2_ref (fun s' h' => steps2_ref l (i + 1) s' k1 k2 hk h') h

def Up (loop : ((St m) → Option (Out m)) → ((St m) → Option (St m)) → (St m) → Option (Out m)) : Prop := ∀ body body' again s o, (∀ s o, body s = some o → body' s = some o) → loop body again s = some o → loop body' again s = some o
theorem up_limR : Up (m := m) limR := by
  intro body body' again s o hb h
  obtain ⟨n, hn⟩ := limR_iff.1 h
  exact limR_iff.2 ⟨n, rounds_mono hb n n (Nat.le_refl _) s o hn⟩

theorem seqK_mono {f1 f2 : (St m) → Option β} {k1 k2 : (Out m) → Option β} {y : β} (hf : ∀ s, f2 s = some y → f1 s = some y) (hk : ∀ o, k2 o = some y → k1 o = some y) : ∀ o, seqK f2 k2 o = some y → seqK f1 k1 o = some y := by
  intro o h
  cases o with
  | norm s => exact hf s h
  | exit id s => exact hk _ h
  | ret s => exact hk _ h
theorem blockK_mono {id : Nat} {k1 k2 : (Out m) → Option β} {y : β} (hk : ∀ o, k2 o = some y → k1 o = some y) : ∀ o, blockK id k2 o = some y → blockK id k1 o = some y := by
  intro o h
  cases o with
  | norm s => exact hk _ h
  | exit id' s =>
    simp only [blockK] at h ⊢
    split at h
    · rename_i he; rw [if_pos he]; exact hk _ h
    · rename_i he; rw [if_neg he]; exact hk _ h
  | ret s => exact hk _ h

theorem code2_ref {H : Hints} {loop : ((St m) → Option (Out m)) → ((St m) → Option (St m)) → (St m) → Option (Out m)} (hL : Up loop) : ∀ (c : Code) (blk : Nat) {β : Type} (s : (St m)) (k1 k2 : (Out m) → Option β) (y : β), (∀ o, k2 o = some y → k1 o = some y) → code2K P D H loop blk c s k2 = some y → codeK P D H loop blk c s k1 = some y := by
  intro c
  induction c with
  | skip => intro blk β s k1 k2 y hk h; exact hk _ h
  | region id ops draw =>
    intro blk β s k1 k2 y hk h
    simp only [code2K] at h
    obtain ⟨hg, h⟩ := guarded_eq h
    simp only [codeK, hg, guarded]
    exact steps2_ref _ _ _ _ _ (fun s' h' => by rw [forceSt_eq] at h'; exact hk _ h') h
  | seq a b iha ihb =>
    intro blk β s k1 k2 y hk h
    simp only [code2K] at h
    simp only [codeK]
    exact iha blk s _ _ y (seqK_mono (fun s' => ihb blk s' k1 k2 y hk) hk) h
  | cond x a b iha ihb =>
    intro blk β s k1 k2 y hk h
    simp only [code2K] at h
    simp only [codeK]
    obtain ⟨t, ht, h⟩ := onBool_eq h
    rw [ht]
    simp only [onBool]
    simp only [forceSt_eq] at h
    cases t
    · exact ihb blk _ k1 k2 y hk h
    · exact iha blk _ k1 k2 y hk h
  | block id a ih =>
    intro blk β s k1 k2 y hk h
    simp only [code2K] at h
    simp only [codeK]
    exact ih id s _ _ y (blockK_mono hk) h
  | loop a ih =>
    intro blk β s k1 k2 y hk h
    simp only [code2K] at h
    simp only [codeK]
    rw [Option.bind_eq_some_iff] at h ⊢
    obtain ⟨o, ho, h⟩ := h
    exact ⟨o, hL _ _ _ _ _ (fun s' o' h' => ih blk s' some some o' (fun _ h => h) h') ho, hk _ h⟩
  | exit id => intro blk β s k1 k2 y hk h; exact hk _ h
  | ret => intro blk β s k1 k2 y hk h; exact hk _ h
  | _ => intro blk β s k1 k2 y hk h; simp [code2K] at h

theorem run2_ref {H : FuncId → Hints} {loop : ((St m) → Option (Out m)) → ((St m) → Option (St m)) → (St m) → Option (Out m)} (hL : Up loop) {f : FuncId} {a : List (SV m)} {b : List (List (SV m))} {r : (SV m) × List (List (SV m))} (h : run2V P D H loop f a b = some r) : runV P D H loop f a b = some r := by
  unfold run2V at h
  unfold runV
  cases hfn : P.funcs[f]? with
  | none => rw [hfn] at h; simp at h
  | some fn =>
    rw [hfn] at h
    simp only at h ⊢
    cases hc : fn.body with
    | none => rw [hc] at h; simp at h
    | some c =>
      rw [hc] at h
      simp only at h ⊢
      exact code2_ref hL c 0 _ _ _ r (fun _ h => h) h

/-- A function's text, read fast with what is told of the others, tells of the function. -/
theorem den_fast {T : (Told m)} {H : FuncId → Hints} {f : FuncId} {a : List (SV m)} {b : List (List (SV m))} {r : (SV m) × List (List (SV m))} (hT : T f = none) (h : run2V P (den P T H) H limR f a b = some r) : den P T H f a b = some r :=
  den_run hT (run2_ref up_limR h)
end
end Go.Vs
