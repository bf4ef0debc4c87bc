/- What the program's functions compute, read off their text by the shadow runner (VsFast2, VsSub, VsLoop, VsAt, VsNm, INm, IHs); no condition. -/
import Derived.Test.YtndacingbfeonaaGreatDoorRows
import Derived.KernelRfl
import Derived.Test.YtndacingbfeonaaGreatDoorVB2
section
/- The fast reading of operations, code and functions; where it tells something, the shadow runner tells the same. -/
namespace Go.Vs
variable {m : Bool}
section
variable {β : Type}
def resK (P : Program) (own : Bool) (dst : Option Tmp) (t : TypeId) (v : (SV m)) (k : (SV m) → Option β) : Option β := match dst with | none => k v | some _ => castK P own t v k
/-- The boxes that are rows. -/
def rowIds (args : List (SV m)) : List Nat := args.flatMap fun | .bsl b _ _ _ => [b] | _ => []
def call2K (P : Program) (D : (Oracle m)) (s : (St m)) (own pureHint : Bool) (f : FuncId) (args : List (SV m)) (dst : Option Tmp) (t : TypeId) (k : (St m) → Option β) : Option β :=
  guarded (args.all SV.handed) <|
    match pureHint with
    | true => guarded (idsOf args).isEmpty ((D f args []).bind fun r => resK P own dst t r.1 fun v => k (s.put dst v))
    | false => (boxesAt s.boxes (idsOf args)).bind fun cs => guarded (cs.all (·.all SV.flat)) <|
        (D f (args.map (SV.ren (placeIn (idsOf args)))) cs).bind fun r => boxesK ((idsOf args).map (rowIds args).contains) cs r.2 fun bs => resK P own dst t r.1 fun v => k (({ s with boxes := putBoxes s.boxes (idsOf args) bs } : (St m)).put dst v)

/-- A slot's bool, known now. -/
def refine (s : (St m)) (x : Operand) (b : Bool) : (St m) := match x with | .tmp t => s.put (some t) (.leaf (.bool b)) | _ => s
def guard2 (s : (St m)) (t : Tmp) (want : Bool) (x y : (St m) → Option β) : Option β :=
  match s.tmps.getD t .any with
  | .leaf (.bool b) => branch (b == want) (x (refine s (.tmp t) want)) (y (refine s (.tmp t) !want))
  | .skip => y s
  | _ => none
/-- A row, cells of it written. -/
def putAt (cs : List (SV m)) (p : Nat) (vs : List (SV m)) : List (SV m) := cs.take p ++ vs ++ cs.drop (p + vs.length)
def exec2K (P : Program) (D : (Oracle m)) (nt : Nat) (mv pu ta : Bool) (o : Oper) (s : (St m)) (k : (St m) → Option β) : Option β :=
  match o.op with
  | .pick c a b => onBool (s.eval c) fun t => branch t (k ((refine s c true).put o.dst ((refine s c true).eval a).drop)) (k ((refine s c false).put o.dst ((refine s c false).eval b).drop))
  | .load t x => (match s.eval x with
    | .eptr _ e p => partK P t e p fun v => k (s.put o.dst v)
    | .ptr b p => (match isAggT P t, mv with
      | false, false => (s.box b).bind fun cs => atSV cs p fun c => dropK P t c fun v => k (s.put o.dst v)
      | _, _ => execK P D nt mv pu ta o s k)
    | _ => execK P D nt mv pu ta o s k)
  | .store t x y => (match s.eval x with
    | .ptr b p => (s.box b).bind fun cs => (sizeT P t).bind fun n => guarded (s.eval y).data (guarded (n == (s.eval y).cells.length && decide (p + n ≤ cs.length)) (k (((s.take y).setBox b (some (putAt cs p (s.eval y).cells))).put o.dst .skip)))
    | _ => execK P D nt mv pu ta o s k)
  | .makeSlice t l c => (match o.dst with
    | some d => (match s.box d with
      | none => guarded (decide (d < nt)) ((makeG P t (s.eval l) (s.eval c)).bind fun p => guarded p.1 (k ((s.setBox d (some p.2.2)).put o.dst (.bsl d p.2.1.1 0 p.2.1.2))))
      | some _ => none)
    | none => none)
  | .binOp op t x y _ => (binG P op t (s.eval x) (s.eval y)).bind fun p => guarded p.1 (k (s.put o.dst p.2))
  | .convert src dst x => (convG P src dst (s.eval x)).bind fun p => guarded p.1 (k (s.put o.dst p.2))
  | .slice t x lo hi none => (optG s.eval lo).bind fun l => (optG s.eval hi).bind fun h => (sliceG P t (s.eval x) l.2 h.2).bind fun p => guarded (l.1 && h.1 && p.1) (k (s.put o.dst p.2))
  | .indexAddr t x i => (indexAddrG P t (s.eval x) (s.eval i)).bind fun p => guarded p.1 (k (s.put o.dst p.2))
  | .index t x i => (indexG P t (s.eval x) (s.eval i)).bind fun p => guarded p.1 (k (s.put o.dst p.2))
  | .call c => (match c.callee with
    | .builtin .append => (match c.args.toList with
      | [x, y] => (appendG P c.argTypes (s.eval x) (s.eval y)).bind fun p => guarded p.1 (k ((s.take x).put o.dst p.2))
      | _ => none)
    | .value g => (match s.eval g with
      | .fn f caps => guarded (decide (operandTmps c.args.toList).Nodup) (call2K P D (s.takes (takenL ta c.args.toList)) mv pu f (c.args.toList.map (argV ta s.eval) ++ caps) o.dst o.type k)
      | _ => none)
    | _ => execK P D nt mv pu ta o s k)
  | _ => execK P D nt mv pu ta o s k

def step2K (P : Program) (D : (Oracle m)) (nt : Nat) (mv pu ta : Bool) (ops : Array Oper) (o : Oper) (s : (St m)) (k : (St m) → Option β) : Option β :=
  match o.guard with
  | none => exec2K P D nt mv pu ta o s k
  | some (j, want) => match (ops[j]?).bind (·.dst) with
    | some t => guard2 s t want (fun s => exec2K P D nt mv pu ta o s k) (fun s => k (s.put o.dst .skip))
    | none => none
def steps2K (P : Program) (D : (Oracle m)) (nt : Nat) (mv pu ta : Nat → Bool) (ops : Array Oper) : List Oper → Nat → (St m) → ((St m) → Option β) → Option β
  | [], _, s, k => k s
  | o :: r, i, s, k => step2K P D nt (mv i) (pu i) (ta i) ops o s fun s' => steps2K P D nt mv pu ta ops r (i + 1) s' k
end

/-! A state worked out, slot by slot, before one goes on. -/
section
variable {β : Type}
def forceV (v : (SV m)) (k : (SV m) → Option β) : Option β :=
  match v with
  | .any => k .any
  | .skip => k .skip
  | .leaf l => k (.leaf l)
  | .own e es => k (.own e es)
  | .agg cs => k (.agg cs)
  | .ptr b o => k (.ptr b o)
  | .eptr c e o => k (.eptr c e o)
  | .bsl b z lo n => k (.bsl b z lo n)
  | .nilptr => k .nilptr
  | .nilface => k .nilface
  | .fn f caps => k (.fn f caps)
  | .tup vs => k (.tup vs)
theorem forceV_eq (v : (SV m)) (k : (SV m) → Option β) : forceV v k = k v := by cases v <;> rfl
def forceL : List (SV m) → (List (SV m) → Option β) → Option β
  | [], k => k []
  | v :: l, k => forceV v fun v' => forceL l fun l' => k (v' :: l')
theorem forceL_eq : ∀ (l : List (SV m)) (k : List (SV m) → Option β), forceL l k = k l
  | [], _ => rfl
  | v :: l, k => by simp only [forceL, forceV_eq, forceL_eq l]
def forceB : List (Option (List (SV m))) → (List (Option (List (SV m))) → Option β) → Option β
  | [], k => k []
  | none :: l, k => forceB l fun l' => k (none :: l')
  | some c :: l, k => forceB l fun l' => k (some c :: l')
theorem forceB_eq : ∀ (l : List (Option (List (SV m)))) (k : List (Option (List (SV m))) → Option β), forceB l k = k l
  | [], _ => rfl
  | none :: l, k => by simp only [forceB, forceB_eq l]
  | some c :: l, k => by simp only [forceB, forceB_eq l]
def forceSt (s : (St m)) (k : (St m) → Option β) : Option β := forceL s.tmps fun t => forceB s.boxes fun b => k ⟨t, b⟩
theorem forceSt_eq (s : (St m)) (k : (St m) → Option β) : forceSt s k = k s := by unfold forceSt; rw [forceL_eq, forceB_eq]
end
def code2K {β : Type} (P : Program) (D : (Oracle m)) (H : Hints) (loop : ((St m) → Option (Out m)) → ((St m) → Option (St m)) → (St m) → Option (Out m)) : Nat → Code → (St m) → ((Out m) → Option β) → Option β
  | _, .skip, s, k => k (.norm s)
  | _, .region id ops draw, s, k => guarded (!draw || okRegion (H.mv id) (H.pure id) (H.take id) ops) (steps2K P D H.nt (H.mv id) (H.pure id) (H.take id) ops ops.toList 0 s fun s' => forceSt ((s'.tidy (H.after id) (H.afterB id)).freeze (H.fz id)) fun s' => k (.norm s'))
  | blk, .seq a b, s, k => code2K P D H loop blk a s (seqK (fun s' => code2K P D H loop blk b s' k) k)
  | blk, .cond c a b, s, k => onBool (s.eval c) fun t => branch t (forceSt (s.dropC H.condA c) fun s => code2K P D H loop blk a s k) (forceSt (s.dropC H.condB c) fun s => code2K P D H loop blk b s k)
  | _, .block id a, s, k => code2K P D H loop id a s (blockK id k)
  | blk, .loop a, s, k => (loop (fun s => code2K P D H loop blk a s some) (fun s => s.again (H.clear blk) (H.drop blk)) s).bind k
  | _, .exit id, s, k => k (.exit id s)
  | _, .ret, s, k => k (.ret s)
  | _, _, _, _ => none
def run2V (P : Program) (D : (Oracle m)) (H : FuncId → Hints) (loop : ((St m) → Option (Out m)) → ((St m) → Option (St m)) → (St m) → Option (Out m)) : (Oracle m) := fun f args boxes =>
  match P.funcs[f]? with
  | some fn => match fn.body with
    | some c => code2K P D ((H f).fit fn.ntmps) loop 0 c (enterV fn args boxes) (endK P fn boxes.length)
    | none => none
  | none => none

/-! ### It tells the same -/
section
variable {P : Program} {D : (Oracle m)} {β : Type}

theorem exec_mono {nt : Nat} {mv pu ta : Bool} {o : Oper} {s : (St m)} {k1 k2 : (St m) → Option β} {y : β} (hk : ∀ s, k2 s = some y → k1 s = some y) (h : execK P D nt mv pu ta o s k2 = some y) : execK P D nt mv pu ta o s k1 = some y := by
  rw [exec_eff, Option.bind_eq_some_iff] at h ⊢
  obtain ⟨e, he, h⟩ := h
  exact ⟨e, he, hk _ h⟩

theorem resK_eq {own : Bool} {dst : Option Tmp} {t : TypeId} {v : (SV m)} {k : (SV m) → Option β} {y : β} (h : resK P own dst t v k = some y) : k v = some y := by
  unfold resK at h
  split at h
  · exact h
  · exact castK_eq h

theorem call2_ref {s : (St m)} {own pu : Bool} {f : FuncId} {args : List (SV m)} {dst : Option Tmp} {t : TypeId} {k1 k2 : (St m) → Option β} {y : β} (hk : ∀ s, k2 s = some y → k1 s = some y) (h : call2K P D s own pu f args dst t k2 = some y) : callK D s pu f args dst k1 = some y := by
  unfold call2K at h
  obtain ⟨h1, h⟩ := guarded_eq h
  unfold callK
  rw [h1]
  simp only [guarded]
  split at h
  · obtain ⟨h2, h⟩ := guarded_eq h
    rw [if_pos rfl, if_pos (by simpa using h2)]
    rw [Option.bind_eq_some_iff] at h ⊢
    obtain ⟨r, hr, h⟩ := h
    exact ⟨r, hr, hk _ (resK_eq h)⟩
  · rw [if_neg (by simp)]
    rw [Option.bind_eq_some_iff] at h ⊢
    obtain ⟨cs, hcs, h⟩ := h
    obtain ⟨h2, h⟩ := guarded_eq h
    refine ⟨cs, hcs, ?_⟩
    rw [h2]
    simp only
    rw [Option.bind_eq_some_iff] at h ⊢
    obtain ⟨r, hr, h⟩ := h
    refine ⟨r, hr, hk _ ?_⟩
    have h3 := boxesK_eq _ cs r.2 _ y h
    exact resK_eq h3

theorem gk {x : Option (Bool × (SV m))} {x' : Option (SV m)} {k1 k2 : (SV m) → Option β} {y : β} (hx : ∀ p, x = some p → p.1 = true → x' = some p.2) (hk : ∀ v, k2 v = some y → k1 v = some y) (h : x.bind (fun p => guarded p.1 (k2 p.2)) = some y) : x'.bind k1 = some y := by
  rw [Option.bind_eq_some_iff] at h
  obtain ⟨p, hp, h⟩ := h
  obtain ⟨h1, h2⟩ := guarded_eq h
  rw [hx p hp h1, Option.bind_some]
  exact hk _ h2

theorem refine_eq {s : (St m)} {x : Operand} {b : Bool} (h : s.eval x = .leaf (.bool b)) : refine s x b = s := by
  cases x with
  | tmp t =>
    simp only [refine, St.put]
    have h' : s.tmps.getD t .any = .leaf (.bool b) := h
    have hl : s.tmps[t]? = some (.leaf (.bool b)) := by
      rw [List.getD_eq_getElem?_getD] at h'
      cases hx : s.tmps[t]? with
      | none => rw [hx] at h'; simp at h'
      | some v => rw [hx] at h'; simpa using h'
    have : s.tmps.set t (.leaf (.bool b)) = s.tmps := by
      apply List.ext_getElem?
      intro i
      by_cases hi : t = i
      · subst hi; rw [List.getElem?_set_self (List.getElem?_eq_some_iff.1 hl).1, hl]
      · rw [List.getElem?_set_ne hi]
    rw [this]
  | _ => rfl
theorem guard2_eq {s : (St m)} {t : Tmp} {want : Bool} {x y : (St m) → Option β} : guard2 s t want x y = onGuard (s.tmps.getD t .any) want (x s) (y s) := by
  unfold guard2 onGuard
  have hr : ∀ b, s.tmps.getD t .any = .leaf (.bool b) → refine s (.tmp t) b = s := fun b hb => refine_eq (x := .tmp t) hb
  generalize s.tmps.getD t .any = v at hr
  cases v with
  | leaf l =>
    cases l with
    | bool b =>
      simp only [branch_eq]
      by_cases hw : b = want
      · subst hw; simp [hr b rfl]
      · have : b = !want := by cases b <;> cases want <;> simp_all
        subst this
        simp [hr _ rfl]
    | _ => rfl
  | _ => rfl
theorem exec2_ref {nt : Nat} {mv pu ta : Bool} {o : Oper} {s : (St m)} {k1 k2 : (St m) → Option β} {y : β} (hk : ∀ s, k2 s = some y → k1 s = some y) (h : exec2K P D nt mv pu ta o s k2 = some y) : execK P D nt mv pu ta o s k1 = some y := by
  cases hop : o.op
  case load t x =>
    simp only [exec2K, hop] at h
    split at h
    · rename_i c e p hx
      obtain ⟨v, hv, h⟩ := partK_eq h
      simp only [execK, hop, hx, hv, Option.bind_some]
      exact hk _ h
    · rename_i b p hx
      split at h
      · rename_i ha
        rw [Option.bind_eq_some_iff] at h
        obtain ⟨cs, hcs, h⟩ := h
        obtain ⟨c, hc, h⟩ := atSV_eq h
        have h := dropK_eq h
        simp only [execK, hop, hx, hcs, Option.bind_some]
        rw [if_neg (by simp [ha]), hc]
        exact hk _ h
      · exact exec_mono hk h
    · exact exec_mono hk h
  case store t x y =>
    simp only [exec2K, hop] at h
    split at h
    · rename_i b p hx
      rw [Option.bind_eq_some_iff] at h
      obtain ⟨cs, hcs, h⟩ := h
      rw [Option.bind_eq_some_iff] at h
      obtain ⟨n, hn, h⟩ := h
      obtain ⟨h1, h⟩ := guarded_eq h
      obtain ⟨h2, h⟩ := guarded_eq h
      simp only [Bool.and_eq_true, beq_iff_eq, decide_eq_true_eq] at h2
      simp only [execK, hop, hx, hcs, hn, Option.bind_some, h1, guarded]
      rw [if_pos h2]
      have := hk _ h
      rw [putAt, ← h2.1] at this
      exact this
    · exact exec_mono hk h
  case makeSlice t l c =>
    simp only [exec2K, hop] at h
    simp only [execK, hop]
    split at h
    · rename_i d hd
      rw [hd]
      simp only
      split at h
      · rename_i hb
        rw [hb]
        simp only
        obtain ⟨h1, h⟩ := guarded_eq h
        rw [h1]
        simp only [guarded]
        rw [Option.bind_eq_some_iff] at h ⊢
        obtain ⟨p, hp, h⟩ := h
        obtain ⟨h2, h⟩ := guarded_eq h
        refine ⟨p.2, makeG_V hp h2, ?_⟩
        rw [hd] at h
        exact hk _ h
      · simp at h
    · simp at h
  case pick c x z =>
    simp only [exec2K, hop] at h
    simp only [execK, hop]
    obtain ⟨b, hb, h⟩ := onBool_eq h
    rw [hb]
    simp only [onBool]
    cases b
    · simp only [branch, refine_eq hb] at h ⊢; exact hk _ h
    · simp only [branch, refine_eq hb] at h ⊢; exact hk _ h
  case binOp op t x z u =>
    simp only [exec2K, hop] at h
    simp only [execK, hop]
    exact gk (fun p hp h1 => binG_V hp h1) (fun v => hk _) h
  case convert src dst x =>
    simp only [exec2K, hop] at h
    simp only [execK, hop]
    exact gk (fun p hp h1 => convG_V hp h1) (fun v => hk _) h
  case slice t x lo hi mx =>
    cases mx with
    | some m => simp only [exec2K, hop] at h; exact exec_mono hk h
    | none =>
      simp only [exec2K, hop] at h
      simp only [execK, hop]
      rw [Option.bind_eq_some_iff] at h
      obtain ⟨l, hl, h⟩ := h
      rw [Option.bind_eq_some_iff] at h
      obtain ⟨r, hr, h⟩ := h
      rw [Option.bind_eq_some_iff] at h
      obtain ⟨p, hp, h⟩ := h
      obtain ⟨h1, h2⟩ := guarded_eq h
      simp only [Bool.and_eq_true] at h1
      rw [optG_V hl h1.1.1, Option.bind_some, optG_V hr h1.1.2, Option.bind_some, sliceG_V hp h1.2, Option.bind_some]
      exact hk _ h2
  case indexAddr t x i =>
    simp only [exec2K, hop] at h
    simp only [execK, hop]
    exact gk (fun p hp h1 => indexAddrG_V hp h1) (fun v => hk _) h
  case index t x i =>
    simp only [exec2K, hop] at h
    simp only [execK, hop]
    exact gk (fun p hp h1 => indexG_V hp h1) (fun v => hk _) h
  case call c =>
    cases hc : c.callee with
    | invoke r m => simp only [exec2K, hop, hc] at h; exact exec_mono hk h
    | value g =>
      simp only [exec2K, hop, hc] at h
      simp only [execK, hop, hc]
      split at h
      · rename_i f caps hg
        obtain ⟨h1, h⟩ := guarded_eq h
        rw [hg]
        simp only [h1, guarded]
        exact call2_ref hk h
      · simp at h
    | builtin b =>
      cases b
      case append =>
        simp only [exec2K, hop, hc] at h
        simp only [execK, hop, hc]
        split at h
        · rename_i x z hargs
          rw [hargs]
          simp only
          exact gk (fun p hp h1 => appendG_V hp h1) (fun v => hk _) h
        · simp at h
      all_goals (simp only [exec2K, hop, hc] at h; exact exec_mono hk h)
  all_goals (simp only [exec2K, hop] at h; exact exec_mono hk h)

theorem step2_ref {nt : Nat} {mv pu ta : Bool} {ops : Array Oper} {o : Oper} {s : (St m)} {k1 k2 : (St m) → Option β} {y : β} (hk : ∀ s, k2 s = some y → k1 s = some y) (h : step2K P D nt mv pu ta ops o s k2 = some y) : stepK P D nt mv pu ta ops o s k1 = some y := by
  unfold step2K at h
  unfold stepK
  cases hg : o.guard with
  | none => rw [hg] at h; exact exec2_ref hk h
  | some g =>
    obtain ⟨j, want⟩ := g
    rw [hg] at h
    simp only at h ⊢
    cases hj : (ops[j]?).bind (·.dst) with
    | none => rw [hj] at h; simp at h
    | some t =>
      rw [hj] at h
      simp only at h ⊢
      rw [guard2_eq] at h
      unfold onGuard at h ⊢
      split at h
      · rename_i b hb
        rw [branch_eq] at h ⊢
        split at h
        · rename_i hbw
          rw [if_pos hbw]
          exact exec2_ref hk h
        · rename_i hbw
          rw [if_neg hbw]
          exact hk _ h
      · exact hk _ h
      · simp at h
theorem steps2_ref {nt : Nat} {mv pu ta : Nat → Bool} {ops : Array Oper} {y : β} : ∀ (l : List Oper) (i : Nat) (s : (St m)) (k1 k2 : (St m) → Option β), (∀ s, k2 s = some y → k1 s = some y) → steps2K P D nt mv pu ta ops l i s k2 = some y → stepsK P D nt mv pu ta ops l i s k1 = some y
  | [], i, s, k1, k2, hk, h => hk _ h
  | o :: l, i, s, k1, k2, hk, h => by
    simp only [steps2K] at h
    simp only [stepsK]
    exact step2_ref (fun s' h' => steps2_ref l (i + 1) s' k1 k2 hk h') h

def Up (loop : ((St m) → Option (Out m)) → ((St m) → Option (St m)) → (St m) → Option (Out m)) : Prop := ∀ body body' again s o, (∀ s o, body s = some o → body' s = some o) → loop body again s = some o → loop body' again s = some o
theorem up_limR : Up (m := m) limR := by
  intro body body' again s o hb h
  obtain ⟨n, hn⟩ := limR_iff.1 h
  exact limR_iff.2 ⟨n, rounds_mono hb n n (Nat.le_refl _) s o hn⟩

theorem seqK_mono {f1 f2 : (St m) → Option β} {k1 k2 : (Out m) → Option β} {y : β} (hf : ∀ s, f2 s = some y → f1 s = some y) (hk : ∀ o, k2 o = some y → k1 o = some y) : ∀ o, seqK f2 k2 o = some y → seqK f1 k1 o = some y := by
  intro o h
  cases o with
  | norm s => exact hf s h
  | exit id s => exact hk _ h
  | ret s => exact hk _ h
theorem blockK_mono {id : Nat} {k1 k2 : (Out m) → Option β} {y : β} (hk : ∀ o, k2 o = some y → k1 o = some y) : ∀ o, blockK id k2 o = some y → blockK id k1 o = some y := by
  intro o h
  cases o with
  | norm s => exact hk _ h
  | exit id' s =>
    simp only [blockK] at h ⊢
    split at h
    · rename_i he; rw [if_pos he]; exact hk _ h
    · rename_i he; rw [if_neg he]; exact hk _ h
  | ret s => exact hk _ h

theorem code2_ref {H : Hints} {loop : ((St m) → Option (Out m)) → ((St m) → Option (St m)) → (St m) → Option (Out m)} (hL : Up loop) : ∀ (c : Code) (blk : Nat) {β : Type} (s : (St m)) (k1 k2 : (Out m) → Option β) (y : β), (∀ o, k2 o = some y → k1 o = some y) → code2K P D H loop blk c s k2 = some y → codeK P D H loop blk c s k1 = some y := by
  intro c
  induction c with
  | skip => intro blk β s k1 k2 y hk h; exact hk _ h
  | region id ops draw =>
    intro blk β s k1 k2 y hk h
    simp only [code2K] at h
    obtain ⟨hg, h⟩ := guarded_eq h
    simp only [codeK, hg, guarded]
    exact steps2_ref _ _ _ _ _ (fun s' h' => by rw [forceSt_eq] at h'; exact hk _ h') h
  | seq a b iha ihb =>
    intro blk β s k1 k2 y hk h
    simp only [code2K] at h
    simp only [codeK]
    exact iha blk s _ _ y (seqK_mono (fun s' => ihb blk s' k1 k2 y hk) hk) h
  | cond x a b iha ihb =>
    intro blk β s k1 k2 y hk h
    simp only [code2K] at h
    simp only [codeK]
    obtain ⟨t, ht, h⟩ := onBool_eq h
    rw [ht]
    simp only [onBool]
    simp only [forceSt_eq] at h
    cases t
    · exact ihb blk _ k1 k2 y hk h
    · exact iha blk _ k1 k2 y hk h
  | block id a ih =>
    intro blk β s k1 k2 y hk h
    simp only [code2K] at h
    simp only [codeK]
    exact ih id s _ _ y (blockK_mono hk) h
  | loop a ih =>
    intro blk β s k1 k2 y hk h
    simp only [code2K] at h
    simp only [codeK]
    rw [Option.bind_eq_some_iff] at h ⊢
    obtain ⟨o, ho, h⟩ := h
    exact ⟨o, hL _ _ _ _ _ (fun s' o' h' => ih blk s' some some o' (fun _ h => h) h') ho, hk _ h⟩
  | exit id => intro blk β s k1 k2 y hk h; exact hk _ h
  | ret => intro blk β s k1 k2 y hk h; exact hk _ h
  | _ => intro blk β s k1 k2 y hk h; simp [code2K] at h

theorem run2_ref {H : FuncId → Hints} {loop : ((St m) → Option (Out m)) → ((St m) → Option (St m)) → (St m) → Option (Out m)} (hL : Up loop) {f : FuncId} {a : List (SV m)} {b : List (List (SV m))} {r : (SV m) × List (List (SV m))} (h : run2V P D H loop f a b = some r) : runV P D H loop f a b = some r := by
  unfold run2V at h
  unfold runV
  cases hfn : P.funcs[f]? with
  | none => rw [hfn] at h; simp at h
  | some fn =>
    rw [hfn] at h
    simp only at h ⊢
    cases hc : fn.body with
    | none => rw [hc] at h; simp at h
    | some c =>
      rw [hc] at h
      simp only at h ⊢
      exact code2_ref hL c 0 _ _ _ r (fun _ h => h) h

/-- A function's text, read fast with what is told of the others, tells of the function. -/
theorem den_fast {T : (Told m)} {H : FuncId → Hints} {f : FuncId} {a : List (SV m)} {b : List (List (SV m))} {r : (SV m) × List (List (SV m))} (hT : T f = none) (h : run2V P (den P T H) H limR f a b = some r) : den P T H f a b = some r :=
  den_run hT (run2_ref up_limR h)
end
end Go.Vs
end
section
/- A piece of a function's code, by the way that leads to it; hints out of tables. -/
namespace Go.Vs
variable {m : Bool}
def sub : Code → List Nat → Code
  | c, [] => c
  | .seq a b, n :: r => if n = 0 then sub a r else sub b r
  | .cond _ a b, n :: r => if n = 0 then sub a r else sub b r
  | .block _ a, _ :: r => sub a r
  | .loop a, _ :: r => sub a r
  | c, _ => c
def bodyOf (P : Program) (f : FuncId) : Code := match P.funcs[f]? with | some fn => fn.body.getD .skip | none => .skip
def fnOf (P : Program) (f : FuncId) : Func := (P.funcs[f]?).getD default
/-- Of one function: by region the places where ownership goes along; by region the calls that take boxes along; by block what is forgotten at its loop's head. -/
structure Tab where
  mv : List (List Nat)
  boxed : List (List Nat)
  take : List (List Nat)
  clear : List (Nat × List Nat)
  drop : List (Nat × List Nat)
  after : List (List Nat)
  afterB : List (List Nat)
  condA : List (Nat × List Nat × List Nat)
  condB : List (Nat × List Nat × List Nat)
  fz : List (Nat × List Nat)
def Tab.hints (t : Tab) : Hints :=
  { nt := 0
    mv := fun r i => (t.mv.getD r []).contains i
    pure := fun r i => !(t.boxed.getD r []).contains i
    take := fun r i => (t.take.getD r []).contains i
    clear := fun b => ((t.clear.find? fun p => p.1 == b).map (·.2)).getD []
    drop := fun b => ((t.drop.find? fun p => p.1 == b).map (·.2)).getD []
    after := fun r => t.after.getD r []
    afterB := fun r => t.afterB.getD r []
    condA := fun b => ((t.condA.find? fun p => p.1 == b).map (·.2)).getD ([], [])
    condB := fun b => ((t.condB.find? fun p => p.1 == b).map (·.2)).getD ([], [])
    fz := fun b => ((t.fz.find? fun p => p.1 == b).map (·.2)).getD [] }
def noTab : Tab := ⟨[], [], [], [], [], [], [], [], [], []⟩
end Go.Vs
end
section
/- A loop of the fast reading, one round opened, as a term that computes. -/
namespace Go.Vs
variable {m : Bool}
section
variable {α β : Type}
theorem guarded_bind (b : Bool) (x : Option α) (f : α → Option β) : (guarded b x).bind f = guarded b (x.bind f) := by cases b <;> rfl
theorem branch_bind (b : Bool) (x y : Option α) (f : α → Option β) : (branch b x y).bind f = branch b (x.bind f) (y.bind f) := by cases b <;> rfl
theorem onBool_bind (v : (SV m)) (k : Bool → Option α) (f : α → Option β) : (onBool v k).bind f = onBool v fun b => (k b).bind f := by unfold onBool; split <;> rfl
theorem intK_bind (k0 : IntKind) (l : (Leaf m)) (k : Int → Option α) (f : α → Option β) : (intK k0 l k).bind f = intK k0 l fun n => (k n).bind f := by
  unfold intK; split
  · split <;> rfl
  · rfl
theorem boolK_bind (l : (Leaf m)) (k : Bool → Option α) (f : α → Option β) : (boolK l k).bind f = boolK l fun n => (k n).bind f := by unfold boolK; split <;> rfl
theorem strK_bind (l : (Leaf m)) (k : ByteArray → Option α) (f : α → Option β) : (strK l k).bind f = strK l fun n => (k n).bind f := by unfold strK; split <;> rfl
theorem slK_bind (l : (Leaf m)) (k : Fl m → List (List (Leaf m)) → Option α) (f : α → Option β) : (slK l k).bind f = slK l fun c n => (k c n).bind f := by unfold slK; split <;> rfl
theorem leafK_bind (P : Program) (t : TypeId) (l : (Leaf m)) (k : (Leaf m) → Option α) (f : α → Option β) : (leafK P t l k).bind f = leafK P t l fun n => (k n).bind f := by
  unfold leafK
  split
  · exact intK_bind _ _ _ _
  · exact boolK_bind _ _ _
  · exact strK_bind _ _ _
  · exact slK_bind _ _ _
  · rfl
theorem atK_bind (e : List (Leaf m)) (p : Nat) (k : (Leaf m) → Option α) (f : α → Option β) : (atK e p k).bind f = atK e p fun n => (k n).bind f := by unfold atK; split <;> rfl
theorem cellsAtK_bind (P : Program) : ∀ (ts : List TypeId) (e : List (Leaf m)) (p : Nat) (k : List (Leaf m) → Option α) (f : α → Option β), (cellsAtK P ts e p k).bind f = cellsAtK P ts e p fun n => (k n).bind f
  | [], e, p, k, f => rfl
  | t :: ts, e, p, k, f => by
    simp only [cellsAtK]
    rw [atK_bind]
    congr 1
    funext l
    rw [leafK_bind]
    congr 1
    funext l'
    exact cellsAtK_bind P ts e (p + 1) _ f
theorem partK_bind (P : Program) (t : TypeId) (e : List (Leaf m)) (p : Nat) (k : (SV m) → Option α) (f : α → Option β) : (partK P t e p k).bind f = partK P t e p fun n => (k n).bind f := by
  unfold partK
  split
  · rw [Option.bind_assoc]
    congr 1
    funext ts
    rw [Option.bind_assoc]
    congr 1
    funext n
    split
    · exact cellsAtK_bind P ts e p _ f
    · rfl
  · rw [atK_bind]
    congr 1
    funext l
    exact leafK_bind P t l _ f
theorem svLeafK_bind (v : (SV m)) (k : (Leaf m) → Option α) (f : α → Option β) : (svLeafK v k).bind f = svLeafK v fun n => (k n).bind f := by unfold svLeafK; split <;> rfl
theorem svSlK_bind (v : (SV m)) (k : Fl m → List (List (Leaf m)) → Option α) (f : α → Option β) : (svSlK v k).bind f = svSlK v fun c n => (k c n).bind f := by unfold svSlK; split <;> rfl
theorem svOwnK_bind (e : TypeId) (v : (SV m)) (k : List (List (Leaf m)) → Option α) (f : α → Option β) : (svOwnK e v k).bind f = svOwnK e v fun n => (k n).bind f := by
  unfold svOwnK; split
  · split <;> rfl
  · rfl
theorem svAggK_bind (v : (SV m)) (k : List (Leaf m) → Option α) (f : α → Option β) : (svAggK v k).bind f = svAggK v fun n => (k n).bind f := by unfold svAggK; split <;> rfl
theorem svNilK_bind (v : (SV m)) (k : Option α) (f : α → Option β) : (svNilK v k).bind f = svNilK v (k.bind f) := by unfold svNilK; split <;> rfl
theorem svTupK_bind (v : (SV m)) (k : List (SV m) → Option α) (f : α → Option β) : (svTupK v k).bind f = svTupK v fun n => (k n).bind f := by unfold svTupK; split <;> rfl
theorem headK_bind (l : List (SV m)) (k : (SV m) → List (SV m) → Option α) (f : α → Option β) : (headK l k).bind f = headK l fun v r => (k v r).bind f := by unfold headK; split <;> rfl
theorem lastK_bind (l : List (SV m)) (k : Option α) (f : α → Option β) : (lastK l k).bind f = lastK l (k.bind f) := by unfold lastK; split <;> rfl
theorem cast1K_bind (P : Program) (own : Bool) (t : TypeId) (v : (SV m)) (k : (SV m) → Option α) (f : α → Option β) : (cast1K P own t v k).bind f = cast1K P own t v fun n => (k n).bind f := by
  unfold cast1K
  split
  · split
    · exact svOwnK_bind _ _ _ _
    · exact svSlK_bind _ _ _
  · rw [svAggK_bind]
    congr 1
    funext cs
    rw [Option.bind_assoc]
    congr 1
    funext ts
    rw [guarded_bind]
    congr 1
    exact cellsAtK_bind P ts cs 0 _ f
  · exact svNilK_bind _ _ _
  · rw [svLeafK_bind]
    congr 1
    funext l
    exact leafK_bind P t l _ f
  · rfl
theorem castsK_bind (P : Program) : ∀ (ts : List TypeId) (l : List (SV m)) (k : List (SV m) → Option α) (f : α → Option β), (castsK P ts l k).bind f = castsK P ts l fun n => (k n).bind f
  | [], l, k, f => lastK_bind l _ f
  | t :: ts, l, k, f => by
    simp only [castsK]
    rw [headK_bind]
    congr 1
    funext v r
    rw [cast1K_bind]
    congr 1
    funext v'
    exact castsK_bind P ts r _ f
theorem castK_bind (P : Program) (own : Bool) (t : TypeId) (v : (SV m)) (k : (SV m) → Option α) (f : α → Option β) : (castK P own t v k).bind f = castK P own t v fun n => (k n).bind f := by
  unfold castK
  split
  · rw [svTupK_bind]
    congr 1
    funext vs
    exact castsK_bind P _ vs _ f
  · exact cast1K_bind P own t v k f
theorem likeK_bind (c d : (SV m)) (k : (SV m) → Option α) (f : α → Option β) : (likeK c d k).bind f = likeK c d fun n => (k n).bind f := by
  unfold likeK
  split
  · rw [svLeafK_bind]; congr 1; funext l; exact intK_bind _ _ _ _
  · rw [svLeafK_bind]; congr 1; funext l; exact boolK_bind _ _ _
  · rw [svLeafK_bind]; congr 1; funext l; exact strK_bind _ _ _
  · exact svSlK_bind _ _ _
  · exact svOwnK_bind _ _ _ _
  · rfl
theorem likesK_bind : ∀ (cs l : List (SV m)) (k : List (SV m) → Option α) (f : α → Option β), (likesK cs l k).bind f = likesK cs l fun n => (k n).bind f
  | [], l, k, f => lastK_bind l _ f
  | c :: cs, l, k, f => by
    simp only [likesK]
    rw [headK_bind]
    congr 1
    funext v r
    rw [likeK_bind]
    congr 1
    funext v'
    exact likesK_bind cs r _ f
theorem boxK_bind (w : Bool) (c d : List (SV m)) (k : List (SV m) → Option α) (f : α → Option β) : (boxK w c d k).bind f = boxK w c d fun n => (k n).bind f := by
  cases w
  · exact likesK_bind c d k f
  · rfl
theorem boxesK_bind : ∀ (ws : List Bool) (cs l : List (List (SV m))) (k : List (List (SV m)) → Option α) (f : α → Option β), (boxesK ws cs l k).bind f = boxesK ws cs l fun n => (k n).bind f
  | [], _, l, k, f => by simp only [boxesK]; unfold lastB; split <;> rfl
  | w :: ws, [], l, k, f => by simp only [boxesK]; unfold lastB; split <;> rfl
  | w :: ws, c :: cs, l, k, f => by
    simp only [boxesK]
    unfold headB
    split
    · rw [boxK_bind]
      congr 1
      funext v'
      exact boxesK_bind ws cs _ _ f
    · rfl
theorem atSV_bind (cs : List (SV m)) (p : Nat) (k : (SV m) → Option α) (f : α → Option β) : (atSV cs p k).bind f = atSV cs p fun n => (k n).bind f := by unfold atSV; split <;> rfl
theorem dropK_bind (P : Program) (t : TypeId) (c : (SV m)) (k : (SV m) → Option α) (f : α → Option β) : (dropK P t c k).bind f = dropK P t c fun n => (k n).bind f := by
  unfold dropK; split
  · exact cast1K_bind P false t _ k f
  · rfl
theorem resK_bind (P : Program) (own : Bool) (dst : Option Tmp) (t : TypeId) (v : (SV m)) (k : (SV m) → Option α) (f : α → Option β) : (resK P own dst t v k).bind f = resK P own dst t v fun n => (k n).bind f := by
  unfold resK; split
  · rfl
  · exact castK_bind P own t v k f
variable {P : Program} {D : (Oracle m)}
theorem call2K_bind (s : (St m)) (own pu : Bool) (g : FuncId) (args : List (SV m)) (dst : Option Tmp) (t : TypeId) (k : (St m) → Option α) (f : α → Option β) : (call2K P D s own pu g args dst t k).bind f = call2K P D s own pu g args dst t fun n => (k n).bind f := by
  unfold call2K
  rw [guarded_bind]
  congr 1
  split
  · rw [guarded_bind, Option.bind_assoc]
    congr 1
    congr 1
    funext r
    exact resK_bind _ _ _ _ _ _ _
  · rw [Option.bind_assoc]
    congr 1
    funext cs
    rw [guarded_bind, Option.bind_assoc]
    congr 1
    congr 1
    funext r
    rw [boxesK_bind]
    congr 1
    funext bs
    exact resK_bind _ _ _ _ _ _ _
theorem exec_bind {nt : Nat} {mv pu ta : Bool} {o : Oper} {s : (St m)} (k : (St m) → Option α) (f : α → Option β) : (execK P D nt mv pu ta o s k).bind f = execK P D nt mv pu ta o s fun n => (k n).bind f := by
  rw [exec_eff, exec_eff, Option.bind_assoc]
theorem g_bind (x : Option (Bool × (SV m))) (k : (SV m) → Option α) (f : α → Option β) : (x.bind fun p => guarded p.1 (k p.2)).bind f = x.bind fun p => guarded p.1 ((k p.2).bind f) := by
  rw [Option.bind_assoc]; congr 1; funext p; exact guarded_bind _ _ _
theorem exec2_bind {nt : Nat} {mv pu ta : Bool} {o : Oper} {s : (St m)} (k : (St m) → Option α) (f : α → Option β) : (exec2K P D nt mv pu ta o s k).bind f = exec2K P D nt mv pu ta o s fun n => (k n).bind f := by
  cases hop : o.op
  case pick c x z =>
    simp only [exec2K, hop]
    rw [onBool_bind]
    congr 1
    funext b
    rw [branch_bind]
  case load t x =>
    simp only [exec2K, hop]
    split
    · exact partK_bind P t _ _ _ f
    · split
      · rw [Option.bind_assoc]
        congr 1
        funext cs
        rw [atSV_bind]
        congr 1
        funext c
        exact dropK_bind P t c _ f
      · exact exec_bind k f
    · exact exec_bind k f
  case store t x y =>
    simp only [exec2K, hop]
    split
    · rw [Option.bind_assoc]
      congr 1
      funext cs
      rw [Option.bind_assoc]
      congr 1
      funext n
      rw [guarded_bind, guarded_bind]
    · exact exec_bind k f
  case makeSlice t l c =>
    simp only [exec2K, hop]
    split
    · split
      · rw [guarded_bind, Option.bind_assoc]
        congr 1
        congr 1
        funext p
        exact guarded_bind _ _ _
      · rfl
    · rfl
  case binOp op t x z u => simp only [exec2K, hop]; exact g_bind _ (fun v => k (s.put o.dst v)) f
  case convert src dst x => simp only [exec2K, hop]; exact g_bind _ (fun v => k (s.put o.dst v)) f
  case slice t x lo hi mx =>
    cases mx with
    | some m => simp only [exec2K, hop]; exact exec_bind k f
    | none =>
      simp only [exec2K, hop]
      rw [Option.bind_assoc]; congr 1; funext l
      rw [Option.bind_assoc]; congr 1; funext h
      rw [Option.bind_assoc]; congr 1; funext p
      exact guarded_bind _ _ _
  case indexAddr t x i => simp only [exec2K, hop]; exact g_bind _ (fun v => k (s.put o.dst v)) f
  case index t x i => simp only [exec2K, hop]; exact g_bind _ (fun v => k (s.put o.dst v)) f
  case call c =>
    cases hc : c.callee with
    | invoke r m => simp only [exec2K, hop, hc]; exact exec_bind k f
    | value g =>
      simp only [exec2K, hop, hc]
      split
      · rw [guarded_bind, call2K_bind]
      · rfl
    | builtin b =>
      cases b
      case append =>
        simp only [exec2K, hop, hc]
        split
        · rename_i x z _
          exact g_bind _ (fun v => k ((s.take x).put o.dst v)) f
        · rfl
      all_goals (simp only [exec2K, hop, hc]; exact exec_bind k f)
  all_goals (simp only [exec2K, hop]; exact exec_bind k f)
theorem step2_bind {nt : Nat} {mv pu ta : Bool} {ops : Array Oper} {o : Oper} {s : (St m)} (k : (St m) → Option α) (f : α → Option β) : (step2K P D nt mv pu ta ops o s k).bind f = step2K P D nt mv pu ta ops o s fun n => (k n).bind f := by
  unfold step2K
  split
  · exact exec2_bind k f
  · split
    · unfold guard2
      split
      · rw [branch_bind, exec2_bind]
      · rfl
      · rfl
    · rfl
theorem steps2_bind {nt : Nat} {mv pu ta : Nat → Bool} {ops : Array Oper} : ∀ (l : List Oper) (i : Nat) (s : (St m)) (k : (St m) → Option α) (f : α → Option β), (steps2K P D nt mv pu ta ops l i s k).bind f = steps2K P D nt mv pu ta ops l i s fun n => (k n).bind f
  | [], i, s, k, f => rfl
  | o :: l, i, s, k, f => by
    simp only [steps2K]
    rw [step2_bind]
    congr 1
    funext s'
    exact steps2_bind l (i + 1) s' k f
end

theorem code2_bind {P : Program} {D : (Oracle m)} {H : Hints} {loop : ((St m) → Option (Out m)) → ((St m) → Option (St m)) → (St m) → Option (Out m)} : ∀ (c : Code) (blk : Nat) {β γ : Type} (s : (St m)) (k : (Out m) → Option β) (f : β → Option γ), (code2K P D H loop blk c s k).bind f = code2K P D H loop blk c s fun o => (k o).bind f := by
  intro c
  induction c with
  | skip => intro blk β γ s k f; rfl
  | region id ops draw =>
    intro blk β γ s k f
    simp only [code2K, forceSt_eq]
    rw [guarded_bind, steps2_bind]
  | seq a b iha ihb =>
    intro blk β γ s k f
    simp only [code2K]
    rw [iha]
    congr 1
    funext o
    cases o with
    | norm s' => exact ihb blk s' k f
    | exit id s' => rfl
    | ret s' => rfl
  | cond x a b iha ihb =>
    intro blk β γ s k f
    simp only [code2K, forceSt_eq]
    rw [onBool_bind]
    congr 1
    funext t
    rw [branch_bind, iha, ihb]
  | block id a ih =>
    intro blk β γ s k f
    simp only [code2K]
    rw [ih]
    congr 1
    funext o
    cases o with
    | norm s' => rfl
    | exit id' s' => simp only [blockK]; split <;> rfl
    | ret s' => rfl
  | loop a ih => intro blk β γ s k f; simp only [code2K]; rw [Option.bind_assoc]
  | exit id => intro blk β γ s k f; rfl
  | ret => intro blk β γ s k f; rfl
  | _ => intro blk β γ s k f; rfl

/-- What goes on behind a round. -/
def loopK (ts bs : List Nat) (L : (St m) → Option (Out m)) : (Out m) → Option (Out m)
  | .norm s => (s.again ts bs).bind L
  | .exit id s => some (.exit id s)
  | .ret s => some (.ret s)
/-- One round, and what goes on behind it. -/
def roundV (P : Program) (D : (Oracle m)) (H : Hints) (loop : ((St m) → Option (Out m)) → ((St m) → Option (St m)) → (St m) → Option (Out m)) (blk : Nat) (c : Code) (L : (St m) → Option (Out m)) (s : (St m)) : Option (Out m) :=
  (s.again (H.clear blk) (H.drop blk)).bind fun s => code2K P D H loop blk c s (loopK (H.clear blk) (H.drop blk) L)
/-- The loop. -/
noncomputable def loopV (P : Program) (D : (Oracle m)) (H : Hints) (blk : Nat) (c : Code) : (St m) → Option (Out m) := limR (fun s => code2K P D H limR blk c s some) (fun s => s.again (H.clear blk) (H.drop blk))

theorem foldl_set_idem {α : Type} (x : α) (ts : List Nat) : ∀ (l : List α), (∀ t ∈ ts, l[t]? = none ∨ l[t]? = some x) → ts.foldl (fun l t => l.set t x) l = l := by
  induction ts with
  | nil => intro l _; rfl
  | cons t ts ih =>
    intro l h
    have h0 : l.set t x = l := by
      rcases h t (by simp) with h | h
      · rw [List.set_eq_of_length_le (by simpa using h)]
      · apply List.ext_getElem?
        intro i
        by_cases hi : t = i
        · subst hi
          rw [List.getElem?_set_self (List.getElem?_eq_some_iff.1 h).1, h]
        · rw [List.getElem?_set_ne hi]
    rw [List.foldl_cons, h0]
    exact ih l fun u hu => h u (by simp [hu])
theorem foldl_set_get {α : Type} (x : α) (ts : List Nat) : ∀ (l : List α), ∀ t ∈ ts, (ts.foldl (fun l t => l.set t x) l)[t]? = none ∨ (ts.foldl (fun l t => l.set t x) l)[t]? = some x := by
  have keep : ∀ (ts : List Nat) (l : List α) (t : Nat), (l[t]? = none ∨ l[t]? = some x) → ((ts.foldl (fun l t => l.set t x) l)[t]? = none ∨ (ts.foldl (fun l t => l.set t x) l)[t]? = some x) := by
    intro ts
    induction ts with
    | nil => intro l t h; exact h
    | cons u ts ih =>
      intro l t h
      rw [List.foldl_cons]
      refine ih _ t ?_
      by_cases hu : u = t
      · subst hu
        by_cases hl : u < l.length
        · right; exact List.getElem?_set_self hl
        · left; exact List.getElem?_eq_none (by simpa using hl)
      · rw [List.getElem?_set_ne hu]; exact h
  induction ts with
  | nil => intro l t h; simp at h
  | cons u ts ih =>
    intro l t ht
    rw [List.foldl_cons]
    by_cases h : t ∈ ts
    · exact ih _ t h
    · have : t = u := by
        rcases List.mem_cons.1 ht with h' | h'
        · exact h'
        · exact absurd h' h
      subst this
      refine keep ts _ t ?_
      by_cases hl : t < l.length
      · right; exact List.getElem?_set_self hl
      · left; exact List.getElem?_eq_none (by simpa using hl)
theorem forget_idem (s : (St m)) (ts bs : List Nat) : (s.forget ts bs).forget ts bs = s.forget ts bs := by
  unfold St.forget
  congr 1
  · exact foldl_set_idem _ _ _ (foldl_set_get _ _ _)
  · exact foldl_set_idem _ _ _ (foldl_set_get _ _ _)
theorem again_idem {s c : (St m)} {ts bs : List Nat} (h : s.again ts bs = some c) : c.again ts bs = some c := by
  unfold St.again at h ⊢
  obtain ⟨h1, h2⟩ := guarded_eq h
  simp only [Option.some.injEq] at h2
  subst h2
  rw [forget_idem, h1]
  rfl
theorem loopV_again (P : Program) (D : (Oracle m)) (H : Hints) (blk : Nat) (c : Code) (s : (St m)) : loopV P D H blk c s = (s.again (H.clear blk) (H.drop blk)).bind (loopV P D H blk c) := by
  unfold loopV
  rw [limR_open]
  cases h : s.again (H.clear blk) (H.drop blk) with
  | none => rfl
  | some c' =>
    simp only [Option.bind_some]
    rw [limR_open _ _ c', again_idem h]
    rfl
/-- A loop, one round opened. -/
theorem loopV_open (P : Program) (D : (Oracle m)) (H : Hints) (blk : Nat) (c : Code) (s : (St m)) : loopV P D H blk c s = roundV P D H limR blk c (loopV P D H blk c) s := by
  show limR _ _ s = _
  rw [limR_open]
  unfold roundV
  congr 1
  funext s'
  rw [code2_bind]
  congr 1
  funext o
  cases o with
  | norm s2 => exact loopV_again P D H blk c s2
  | exit id s2 => rfl
  | ret s2 => rfl
end Go.Vs
end
section
/- A function's code from a place in it on: the piece that lies there, and what goes on behind it. A loop, one round opened. -/
namespace Go.Vs
variable {m : Bool}
/-- The block around a place, which names its loop. -/
def blkAt : Nat → Code → List Nat → Nat
  | b, _, [] => b
  | b, .seq x y, n :: r => if n = 0 then blkAt b x r else blkAt b y r
  | b, .cond _ x y, n :: r => if n = 0 then blkAt b x r else blkAt b y r
  | _, .block id x, _ :: r => blkAt id x r
  | b, .loop x, _ :: r => blkAt b x r
  | b, _, _ => b
def loopK2 {β : Type} (ts bs : List Nat) (L : (St m) → Option β) (k : (Out m) → Option β) : (Out m) → Option β
  | .norm s => (s.again ts bs).bind L
  | .exit id s => k (.exit id s)
  | .ret s => k (.ret s)
/-- What goes on behind a place. -/
noncomputable def contK {β : Type} (P : Program) (D : (Oracle m)) (H : Hints) : Nat → Code → List Nat → ((Out m) → Option β) → (Out m) → Option β
  | _, _, [], k => k
  | b, .seq x y, n :: r, k => if n = 0 then contK P D H b x r (seqK (fun s => code2K P D H limR b y s k) k) else contK P D H b y r k
  | b, .cond _ x y, n :: r, k => if n = 0 then contK P D H b x r k else contK P D H b y r k
  | _, .block id x, _ :: r, k => contK P D H id x r (blockK id k)
  | b, .loop x, _ :: r, k => contK P D H b x r (loopK2 (H.clear b) (H.drop b) (fun s => code2K P D H limR b (.loop x) s k) k)
  | _, _, _, k => k
noncomputable def atF (P : Program) (D : (Oracle m)) (H : FuncId → Hints) (f : FuncId) (p : List Nat) (n : Nat) (s : (St m)) : Option ((SV m) × List (List (SV m))) :=
  code2K P D ((H f).fit (fnOf P f).ntmps) limR (blkAt 0 (bodyOf P f) p) (sub (bodyOf P f) p) s (contK P D ((H f).fit (fnOf P f).ntmps) 0 (bodyOf P f) p (endK P (fnOf P f) n))

/-- A loop, one round opened, and what goes on behind it. -/
theorem loop_open {β : Type} (P : Program) (D : (Oracle m)) (H : Hints) (b : Nat) (c : Code) (s : (St m)) (k : (Out m) → Option β) :
    code2K P D H limR b (.loop c) s k = (s.again (H.clear b) (H.drop b)).bind fun s => code2K P D H limR b c s (loopK2 (H.clear b) (H.drop b) (fun s => code2K P D H limR b (.loop c) s k) k) := by
  have h0 : ∀ s, code2K P D H limR b (.loop c) s k = (loopV P D H b c s).bind k := fun s => rfl
  rw [h0, loopV_open]
  unfold roundV
  rw [Option.bind_assoc]
  congr 1
  funext s'
  rw [code2_bind]
  congr 1
  funext o
  cases o with
  | norm s2 =>
    simp only [loopK, loopK2, Option.bind_assoc]
    congr 1
  | exit id s2 => rfl
  | ret s2 => rfl
theorem atF_loop {P : Program} {D : (Oracle m)} {H : FuncId → Hints} {f : FuncId} {p : List Nat} {c : Code} (hc : sub (bodyOf P f) p = .loop c) (n : Nat) (s : (St m)) :
    atF P D H f p n s = (s.again (((H f).fit (fnOf P f).ntmps).clear (blkAt 0 (bodyOf P f) p)) (((H f).fit (fnOf P f).ntmps).drop (blkAt 0 (bodyOf P f) p))).bind fun s =>
      code2K P D ((H f).fit (fnOf P f).ntmps) limR (blkAt 0 (bodyOf P f) p) c s (loopK2 (((H f).fit (fnOf P f).ntmps).clear (blkAt 0 (bodyOf P f) p)) (((H f).fit (fnOf P f).ntmps).drop (blkAt 0 (bodyOf P f) p))
        (fun s => code2K P D ((H f).fit (fnOf P f).ntmps) limR (blkAt 0 (bodyOf P f) p) (.loop c) s (contK P D ((H f).fit (fnOf P f).ntmps) 0 (bodyOf P f) p (endK P (fnOf P f) n))) (contK P D ((H f).fit (fnOf P f).ntmps) 0 (bodyOf P f) p (endK P (fnOf P f) n))) := by
  unfold atF
  rw [hc]
  exact loop_open _ _ _ _ _ _ _
end Go.Vs
end
section
/- A function's code read up to named places: what goes on there is told by a function of its own. -/
namespace Go.Vs
variable {m : Bool}
section
variable {β : Type}
/-- The piece c, which lies at the place r (told backwards); pieces at the places nm, and loops, are left to J. -/
def codeN (P : Program) (D : (Oracle m)) (H : Hints) (nm : List (List Nat)) (J : List Nat × (St m) → Option β) : List Nat → Nat → Code → (St m) → ((Out m) → Option β) → Option β
  | _, _, .skip, s, k => k (.norm s)
  | _, _, .region id ops draw, s, k => guarded (!draw || okRegion (H.mv id) (H.pure id) (H.take id) ops) (steps2K P D H.nt (H.mv id) (H.pure id) (H.take id) ops ops.toList 0 s fun s' => forceSt ((s'.tidy (H.after id) (H.afterB id)).freeze (H.fz id)) fun s' => k (.norm s'))
  | r, blk, .seq a b, s, k =>
    if nm.contains (0 :: r).reverse then J ((0 :: r).reverse, s) else codeN P D H nm J (0 :: r) blk a s (seqK (fun s' => if nm.contains (1 :: r).reverse then J ((1 :: r).reverse, s') else codeN P D H nm J (1 :: r) blk b s' k) k)
  | r, blk, .cond c a b, s, k => onBool (s.eval c) fun t => branch t
      (forceSt (s.dropC H.condA c) fun s => if nm.contains (0 :: r).reverse then J ((0 :: r).reverse, s) else codeN P D H nm J (0 :: r) blk a s k)
      (forceSt (s.dropC H.condB c) fun s => if nm.contains (1 :: r).reverse then J ((1 :: r).reverse, s) else codeN P D H nm J (1 :: r) blk b s k)
  | r, _, .block id a, s, k => if nm.contains (0 :: r).reverse then J ((0 :: r).reverse, s) else codeN P D H nm J (0 :: r) id a s (blockK id k)
  | r, blk, .loop a, s, k => (s.again (H.clear blk) (H.drop blk)).bind fun s => if nm.contains (0 :: r).reverse then J ((0 :: r).reverse, s) else codeN P D H nm J (0 :: r) blk a s (loopK2 (H.clear blk) (H.drop blk) (fun s => J (r.reverse, s)) k)
  | _, _, .exit id, s, k => k (.exit id s)
  | _, _, .ret, s, k => k (.ret s)
  | _, _, _, _, _ => none

theorem sub_append : ∀ (p : List Nat) (c : Code) (q : List Nat), sub c (p ++ q) = sub (sub c p) q
  | [], c, q => by simp [sub]
  | n :: p, c, q => by
    cases c <;> simp only [List.cons_append, sub]
    case seq a b => split <;> exact sub_append p _ q
    case cond x a b => split <;> exact sub_append p _ q
    case block id a => exact sub_append p _ q
    case loop a => exact sub_append p _ q
    all_goals (cases q <;> rfl)
theorem blkAt_append : ∀ (p : List Nat) (b : Nat) (c : Code) (q : List Nat), blkAt b c (p ++ q) = blkAt (blkAt b c p) (sub c p) q
  | [], b, c, q => by simp [sub, blkAt]
  | n :: p, b, c, q => by
    cases c <;> simp only [List.cons_append, sub, blkAt]
    case seq x y => split <;> exact blkAt_append p _ _ q
    case cond x x y => split <;> exact blkAt_append p _ _ q
    case block id x => exact blkAt_append p _ _ q
    case loop x => exact blkAt_append p _ _ q
    all_goals (cases q <;> rfl)
theorem contK_append (P : Program) (D : (Oracle m)) (H : Hints) : ∀ (p : List Nat) (b : Nat) (c : Code) (q : List Nat) (k : (Out m) → Option β), contK P D H b c (p ++ q) k = contK P D H (blkAt b c p) (sub c p) q (contK P D H b c p k)
  | [], b, c, q, k => by simp [sub, blkAt, contK]
  | n :: p, b, c, q, k => by
    cases c <;> simp only [List.cons_append, sub, blkAt, contK]
    case seq x y => split <;> exact contK_append P D H p _ _ q _
    case cond x x y => split <;> exact contK_append P D H p _ _ q _
    case block id x => exact contK_append P D H p _ _ q _
    case loop x => exact contK_append P D H p _ _ q _
    all_goals (cases q <;> rfl)

theorem codeN_eq {P : Program} {D : (Oracle m)} {H : Hints} {nm : List (List Nat)} {J : List Nat × (St m) → Option β} {root : Code} {kE : (Out m) → Option β}
    (hJ : ∀ p s, J (p, s) = code2K P D H limR (blkAt 0 root p) (sub root p) s (contK P D H 0 root p kE)) :
    ∀ (c : Code) (r : List Nat) (blk : Nat) (s : (St m)) (k : (Out m) → Option β), sub root r.reverse = c → blkAt 0 root r.reverse = blk → contK P D H 0 root r.reverse kE = k → codeN P D H nm J r blk c s k = code2K P D H limR blk c s k := by
  intro c
  induction c with
  | skip => intro r blk s k _ _ _; rfl
  | region id ops draw => intro r blk s k _ _ _; rfl
  | seq a b iha ihb =>
    intro r blk s k hc hb hk
    have ha0 : sub root (0 :: r).reverse = a := by rw [List.reverse_cons, sub_append, hc]; simp [sub]
    have ha1 : blkAt 0 root (0 :: r).reverse = blk := by rw [List.reverse_cons, blkAt_append, hc, hb]; simp [blkAt]
    have ha2 : contK P D H 0 root (0 :: r).reverse kE = seqK (fun s => code2K P D H limR blk b s k) k := by rw [List.reverse_cons, contK_append, hc, hb, hk]; simp [contK]
    have hb0 : sub root (1 :: r).reverse = b := by rw [List.reverse_cons, sub_append, hc]; simp [sub]
    have hb1 : blkAt 0 root (1 :: r).reverse = blk := by rw [List.reverse_cons, blkAt_append, hc, hb]; simp [blkAt]
    have hb2 : contK P D H 0 root (1 :: r).reverse kE = k := by rw [List.reverse_cons, contK_append, hc, hb, hk]; simp [contK]
    have eb : (fun s' => if nm.contains (1 :: r).reverse then J ((1 :: r).reverse, s') else codeN P D H nm J (1 :: r) blk b s' k) = fun s' => code2K P D H limR blk b s' k := by
      funext s'
      split
      · rw [hJ, hb0, hb1, hb2]
      · exact ihb _ _ _ _ hb0 hb1 hb2
    simp only [codeN, code2K]
    rw [eb]
    split
    · rw [hJ, ha0, ha1, ha2]
    · exact iha _ _ _ _ ha0 ha1 ha2
  | cond x a b iha ihb =>
    intro r blk s k hc hb hk
    have ha0 : sub root (0 :: r).reverse = a := by rw [List.reverse_cons, sub_append, hc]; simp [sub]
    have ha1 : blkAt 0 root (0 :: r).reverse = blk := by rw [List.reverse_cons, blkAt_append, hc, hb]; simp [blkAt]
    have ha2 : contK P D H 0 root (0 :: r).reverse kE = k := by rw [List.reverse_cons, contK_append, hc, hb, hk]; simp [contK]
    have hb0 : sub root (1 :: r).reverse = b := by rw [List.reverse_cons, sub_append, hc]; simp [sub]
    have hb1 : blkAt 0 root (1 :: r).reverse = blk := by rw [List.reverse_cons, blkAt_append, hc, hb]; simp [blkAt]
    have hb2 : contK P D H 0 root (1 :: r).reverse kE = k := by rw [List.reverse_cons, contK_append, hc, hb, hk]; simp [contK]
    simp only [codeN, code2K, forceSt_eq]
    congr 1
    funext t
    congr 1
    · split
      · rw [hJ, ha0, ha1, ha2]
      · exact iha _ _ _ _ ha0 ha1 ha2
    · split
      · rw [hJ, hb0, hb1, hb2]
      · exact ihb _ _ _ _ hb0 hb1 hb2
  | block id a ih =>
    intro r blk s k hc hb hk
    have ha0 : sub root (0 :: r).reverse = a := by rw [List.reverse_cons, sub_append, hc]; simp [sub]
    have ha1 : blkAt 0 root (0 :: r).reverse = id := by rw [List.reverse_cons, blkAt_append, hc, hb]; simp [blkAt]
    have ha2 : contK P D H 0 root (0 :: r).reverse kE = blockK id k := by rw [List.reverse_cons, contK_append, hc, hb, hk]; simp [contK]
    simp only [codeN, code2K]
    split
    · rw [hJ, ha0, ha1, ha2]
    · exact ih _ _ _ _ ha0 ha1 ha2
  | loop a ih =>
    intro r blk s k hc hb hk
    have ha0 : sub root (0 :: r).reverse = a := by rw [List.reverse_cons, sub_append, hc]; simp [sub]
    have ha1 : blkAt 0 root (0 :: r).reverse = blk := by rw [List.reverse_cons, blkAt_append, hc, hb]; simp [blkAt]
    have eL : (fun s => J (r.reverse, s)) = fun s => code2K P D H limR blk (.loop a) s k := by funext s'; rw [hJ, hc, hb, hk]
    have ha2 : contK P D H 0 root (0 :: r).reverse kE = loopK2 (H.clear blk) (H.drop blk) (fun s => code2K P D H limR blk (.loop a) s k) k := by rw [List.reverse_cons, contK_append, hc, hb, hk]; simp [contK]
    simp only [codeN]
    rw [loop_open, eL]
    congr 1
    funext s'
    split
    · rw [hJ, ha0, ha1, ha2]
    · exact ih _ _ _ _ ha0 ha1 ha2
  | exit id => intro r blk s k _ _ _; rfl
  | ret => intro r blk s k _ _ _; rfl
  | _ => intro r blk s k _ _ _; rfl
end

/-- What goes on behind a place, read up to the named places; r: the way to the piece c, told backwards. -/
noncomputable def contN {β : Type} (P : Program) (D : (Oracle m)) (H : Hints) (nm : List (List Nat)) (J : List Nat × (St m) → Option β) : List Nat → Nat → Code → List Nat → ((Out m) → Option β) → (Out m) → Option β
  | _, _, _, [], k => k
  | r, b, .seq x y, n :: p, k => if n = 0 then contN P D H nm J (n :: r) b x p (seqK (fun s => if nm.contains (1 :: r).reverse then J ((1 :: r).reverse, s) else codeN P D H nm J (1 :: r) b y s k) k) else contN P D H nm J (n :: r) b y p k
  | r, b, .cond _ x y, n :: p, k => if n = 0 then contN P D H nm J (n :: r) b x p k else contN P D H nm J (n :: r) b y p k
  | r, _, .block id x, n :: p, k => contN P D H nm J (n :: r) id x p (blockK id k)
  | r, b, .loop x, n :: p, k => contN P D H nm J (n :: r) b x p (loopK2 (H.clear b) (H.drop b) (fun s => J (r.reverse, s)) k)
  | _, _, _, _, k => k
theorem contN_eq {β : Type} {P : Program} {D : (Oracle m)} {H : Hints} {nm : List (List Nat)} {J : List Nat × (St m) → Option β} {root : Code} {kE : (Out m) → Option β}
    (hJ : ∀ p s, J (p, s) = code2K P D H limR (blkAt 0 root p) (sub root p) s (contK P D H 0 root p kE)) :
    ∀ (p : List Nat) (c : Code) (r : List Nat) (blk : Nat) (k : (Out m) → Option β), sub root r.reverse = c → blkAt 0 root r.reverse = blk → contK P D H 0 root r.reverse kE = k → contN P D H nm J r blk c p k = contK P D H blk c p k := by
  intro p
  induction p with
  | nil => intro c r blk k _ _ _; simp [contN, contK]
  | cons n p ih =>
    intro c r blk k hc hb hk
    have hs : ∀ n, sub root (n :: r).reverse = sub c [n] := fun n => by rw [List.reverse_cons, sub_append, hc]
    have hbl : ∀ n, blkAt 0 root (n :: r).reverse = blkAt blk c [n] := fun n => by rw [List.reverse_cons, blkAt_append, hc, hb]
    have hkk : ∀ n, contK P D H 0 root (n :: r).reverse kE = contK P D H blk c [n] k := fun n => by rw [List.reverse_cons, contK_append, hc, hb, hk]
    cases c with
    | seq x y =>
      have hb0 : sub root (1 :: r).reverse = y := by rw [hs]; simp [sub]
      have hb1 : blkAt 0 root (1 :: r).reverse = blk := by rw [hbl]; simp [blkAt]
      have hb2 : contK P D H 0 root (1 :: r).reverse kE = k := by rw [hkk]; simp [contK]
      have eb : (fun s => if nm.contains (1 :: r).reverse then J ((1 :: r).reverse, s) else codeN P D H nm J (1 :: r) blk y s k) = fun s => code2K P D H limR blk y s k := by
        funext s'
        split
        · rw [hJ, hb0, hb1, hb2]
        · exact codeN_eq hJ _ _ _ _ _ hb0 hb1 hb2
      simp only [contN, contK]
      rw [eb]
      by_cases hn : n = 0
      · subst hn
        simp only [if_true]
        exact ih _ _ _ _ (by rw [hs]; simp [sub]) (by rw [hbl]; simp [blkAt]) (by rw [hkk]; simp [contK])
      · simp only [hn, if_false]
        exact ih _ _ _ _ (by rw [hs]; simp [sub, hn]) (by rw [hbl]; simp [blkAt, hn]) (by rw [hkk]; simp [contK, hn])
    | cond z x y =>
      simp only [contN, contK]
      by_cases hn : n = 0
      · subst hn
        simp only [if_true]
        exact ih _ _ _ _ (by rw [hs]; simp [sub]) (by rw [hbl]; simp [blkAt]) (by rw [hkk]; simp [contK])
      · simp only [hn, if_false]
        exact ih _ _ _ _ (by rw [hs]; simp [sub, hn]) (by rw [hbl]; simp [blkAt, hn]) (by rw [hkk]; simp [contK, hn])
    | block id x =>
      simp only [contN, contK]
      exact ih _ _ _ _ (by rw [hs]; simp [sub]) (by rw [hbl]; simp [blkAt]) (by rw [hkk]; simp [contK])
    | loop x =>
      have eL : (fun s => J (r.reverse, s)) = fun s => code2K P D H limR blk (.loop x) s k := by funext s'; rw [hJ, hc, hb, hk]
      simp only [contN, contK]
      rw [eL]
      exact ih _ _ _ _ (by rw [hs]; simp [sub]) (by rw [hbl]; simp [blkAt]) (by rw [hkk]; simp [contK])
    | _ => simp [contN, contK]

/-- A function's code from a place on, read up to the named places. -/
noncomputable def nameF (P : Program) (D : (Oracle m)) (H : FuncId → Hints) (f : FuncId) (nm : List (List Nat)) (n : Nat) (J : List Nat × (St m) → Option ((SV m) × List (List (SV m)))) (x : List Nat × (St m)) : Option ((SV m) × List (List (SV m))) :=
  codeN P D ((H f).fit (fnOf P f).ntmps) nm J x.1.reverse (blkAt 0 (bodyOf P f) x.1) (sub (bodyOf P f) x.1) x.2 (contN P D ((H f).fit (fnOf P f).ntmps) nm J [] 0 (bodyOf P f) x.1 (endK P (fnOf P f) n))
theorem nameF_eq {P : Program} {D : (Oracle m)} {H : FuncId → Hints} {f : FuncId} {n : Nat} {J : List Nat × (St m) → Option ((SV m) × List (List (SV m)))} (hJ : ∀ p s, J (p, s) = atF P D H f p n s) (nm : List (List Nat)) (x : List Nat × (St m)) :
    J x = nameF P D H f nm n J x := by
  obtain ⟨p, s⟩ := x
  rw [hJ]
  unfold nameF atF
  rw [contN_eq (root := bodyOf P f) (fun p s => hJ p s) _ _ _ _ _ (by simp [sub]) (by simp [blkAt]) (by simp [contK])]
  exact (codeN_eq (root := bodyOf P f) (fun p s => hJ p s) _ _ _ _ _ (by simp) (by simp) (by simp)).symm
end Go.Vs
namespace Go.Vs
theorem run_names {m : Bool} {P : Program} {D : (Oracle m)} {H : FuncId → Hints} {f : FuncId} {args : List (SV m)} {boxes : List (List (SV m))} {J : List Nat × (St m) → Option ((SV m) × List (List (SV m)))}
    (hb : ((P.funcs[f]?).bind (·.body)).isSome = true) (hJ : ∀ p s, J (p, s) = atF P D H f p boxes.length s) (nm : List (List Nat)) :
    run2V P D H limR f args boxes = nameF P D H f nm boxes.length J ([], enterV (fnOf P f) args boxes) := by
  rw [← nameF_eq hJ, hJ]
  unfold run2V atF fnOf bodyOf
  cases hfn : P.funcs[f]? with
  | none => rw [hfn] at hb; simp at hb
  | some fn =>
    rw [hfn] at hb
    simp only [Option.bind_some] at hb
    cases hc : fn.body with
    | none => rw [hc] at hb; simp at hb
    | some c => simp [sub, blkAt, contK, hc]
/-- n slots of which nothing is known, n boxes that are not there (for printed states). -/
def anyS {m : Bool} (n : Nat) : List (SV m) := List.replicate n .any
def noB {m : Bool} (n : Nat) : List (Option (List (SV m))) := List.replicate n none
end Go.Vs
end
section
/- The numbers of the program's functions and types, under names. -/
namespace Go.Vs
namespace F
abbrev main_main : Nat := 0
abbrev gosem_cut : Nat := 1
abbrev gosem_cut_init : Nat := 2
abbrev laws_FnExactArgProblems : Nat := 3
abbrev laws_FnExactInProblems : Nat := 4
abbrev laws_FnExactDirProblems : Nat := 5
abbrev laws_FnExactTypeProblems : Nat := 6
abbrev laws_FnExactGivenProblems : Nat := 7
abbrev laws_FnExactSchemaProblems : Nat := 8
abbrev laws_szSchema : Nat := 9
abbrev laws_szInDefS : Nat := 10
abbrev laws_szArgS : Nat := 11
abbrev spec_ArgProblems : Nat := 12
abbrev laws_toSchema : Nat := 13
abbrev laws_toInDefS : Nat := 14
abbrev laws_toArgS : Nat := 15
abbrev impl_ArgProblems : Nat := 16
abbrev laws_eqProblemS : Nat := 17
abbrev laws_eqSchema : Nat := 18
abbrev laws_eqInDefS : Nat := 19
abbrev laws_eqArgS : Nat := 20
abbrev laws_markSchema : Nat := 21
abbrev laws_markInDefS : Nat := 22
abbrev laws_markArgS : Nat := 23
abbrev laws_markProblemS : Nat := 24
abbrev laws_heldProblemS : Nat := 25
abbrev spec_InProblems : Nat := 26
abbrev impl_InProblems : Nat := 27
abbrev laws_szDirS : Nat := 28
abbrev spec_DirProblems : Nat := 29
abbrev laws_toDirS : Nat := 30
abbrev impl_DirProblems : Nat := 31
abbrev laws_eqDirS : Nat := 32
abbrev laws_markDirS : Nat := 33
abbrev laws_szDef : Nat := 34
abbrev spec_TypeProblems : Nat := 35
abbrev laws_toDef : Nat := 36
abbrev impl_TypeProblems : Nat := 37
abbrev laws_eqDef : Nat := 38
abbrev laws_markDef : Nat := 39
abbrev laws_szSelS : Nat := 40
abbrev spec_GivenProblems : Nat := 41
abbrev laws_toSelS : Nat := 42
abbrev impl_GivenProblems : Nat := 43
abbrev laws_eqSelS : Nat := 44
abbrev laws_markSelS : Nat := 45
abbrev spec_SchemaProblems : Nat := 46
abbrev impl_SchemaProblems : Nat := 47
abbrev laws_szDefS : Nat := 48
abbrev laws_szRootS : Nat := 49
abbrev laws_szInDef : Nat := 50
abbrev laws_szArg : Nat := 51
abbrev spec_l18Has : Nat := 52
abbrev spec_InAt : Nat := 53
abbrev spec_Fits : Nat := 54
abbrev spec_RequiredIn : Nat := 55
abbrev laws_toDefS : Nat := 56
abbrev laws_toRootS : Nat := 57
abbrev laws_toInDef : Nat := 58
abbrev laws_toArg : Nat := 59
abbrev impl_problems_add : Nat := 60
abbrev impl_hasArg : Nat := 61
abbrev impl_InAt : Nat := 62
abbrev impl_Fits : Nat := 63
abbrev impl_RequiredIn : Nat := 64
abbrev laws_eqProblem : Nat := 65
abbrev laws_eqDefS : Nat := 66
abbrev laws_eqRootS : Nat := 67
abbrev laws_eqInDef : Nat := 68
abbrev laws_eqArg : Nat := 69
abbrev laws_markDefS : Nat := 70
abbrev laws_markRootS : Nat := 71
abbrev laws_markText : Nat := 72
abbrev laws_markValueS : Nat := 73
abbrev laws_markStringS : Nat := 74
abbrev spec_l20In : Nat := 75
abbrev impl_Reserved : Nat := 76
abbrev impl_IsInput : Nat := 77
abbrev laws_szDir : Nat := 78
abbrev spec_l17Dir : Nat := 79
abbrev laws_toDir : Nat := 80
abbrev impl_dirDef : Nat := 81
abbrev slices_Contains_S_string_string : Nat := 82
abbrev slices_ContainsFunc_S_impl_Dir_impl_Dir : Nat := 83
abbrev impl_DirProblems_1 : Nat := 84
abbrev impl_problems_all : Nat := 85
abbrev laws_eqDir : Nat := 86
abbrev laws_szStringS : Nat := 87
abbrev laws_szFieldDefS : Nat := 88
abbrev laws_szEnumDefS : Nat := 89
abbrev spec_l20Big : Nat := 90
abbrev spec_Reserved : Nat := 91
abbrev spec_BuiltIn : Nat := 92
abbrev spec_l20Fields : Nat := 93
abbrev spec_l20Members : Nat := 94
abbrev spec_l20Values : Nat := 95
abbrev spec_InCycle : Nat := 96
abbrev laws_toStringS : Nat := 97
abbrev laws_toFieldDefS : Nat := 98
abbrev laws_toEnumDefS : Nat := 99
abbrev impl_tooMany : Nat := 100
abbrev impl_BuiltIn : Nat := 101
abbrev impl_fieldProblems : Nat := 102
abbrev impl_KindOf : Nat := 103
abbrev slices_ContainsFunc_S_impl_EnumDef_impl_EnumDef : Nat := 104
abbrev impl_TypeProblems_1 : Nat := 105
abbrev impl_InCycle : Nat := 106
abbrev laws_eqStringS : Nat := 107
abbrev laws_eqFieldDefS : Nat := 108
abbrev laws_eqEnumDefS : Nat := 109
abbrev laws_markFieldDefS : Nat := 110
abbrev laws_markEnumDefS : Nat := 111
abbrev laws_szSel : Nat := 112
abbrev spec_l25Many : Nat := 113
abbrev spec_l25Places : Nat := 114
abbrev spec_l18Field : Nat := 115
abbrev spec_SelPlace : Nat := 116
abbrev laws_toSel : Nat := 117
abbrev impl_PlacesOf : Nat := 118
abbrev impl_fieldDef : Nat := 119
abbrev impl_SelPlace : Nat := 120
abbrev laws_eqSel : Nat := 121
abbrev spec_RootOf : Nat := 122
abbrev spec_OpWord : Nat := 123
abbrev spec_KindOf : Nat := 124
abbrev impl_RootOf : Nat := 125
abbrev impl_OpWord : Nat := 126
abbrev slices_ContainsFunc_S_impl_Root_impl_Root : Nat := 127
abbrev impl_SchemaProblems_1 : Nat := 128
abbrev impl_SchemaProblems_2 : Nat := 129
abbrev laws_szRoot : Nat := 130
abbrev laws_szType : Nat := 131
abbrev laws_szValue : Nat := 132
abbrev spec_Needed : Nat := 133
abbrev spec_Fewer : Nat := 134
abbrev spec_Inner : Nat := 135
abbrev spec_TypeAt : Nat := 136
abbrev spec_l19Scalar : Nat := 137
abbrev spec_l19Input : Nat := 138
abbrev laws_toRoot : Nat := 139
abbrev laws_toType : Nat := 140
abbrev laws_toValue : Nat := 141
abbrev slices_ContainsFunc_S_impl_Arg_impl_Arg : Nat := 142
abbrev impl_hasArg_1 : Nat := 143
abbrev slices_IndexFunc_S_impl_InDef_impl_InDef : Nat := 144
abbrev impl_InAt_1 : Nat := 145
abbrev impl_isNull : Nat := 146
abbrev impl_Needed : Nat := 147
abbrev impl_Fewer : Nat := 148
abbrev strings_HasSuffix : Nat := 149
abbrev impl_Inner : Nat := 150
abbrev slices_ContainsFunc_S_impl_Value_impl_Value : Nat := 151
abbrev impl_Fits_1 : Nat := 152
abbrev impl_fitsName : Nat := 153
abbrev laws_eqRoot : Nat := 154
abbrev laws_eqType : Nat := 155
abbrev laws_eqValue : Nat := 156
abbrev spec_IsInput : Nat := 157
abbrev strings_HasPrefix : Nat := 158
abbrev spec_BuiltDirs : Nat := 159
abbrev impl_named : Nat := 160
abbrev impl_BuiltDirs : Nat := 161
abbrev slices_Index_S_string_string : Nat := 162
abbrev slices_IndexFunc_S_impl_Dir_impl_Dir : Nat := 163
abbrev laws_szFieldDef : Nat := 164
abbrev laws_szEnumDef : Nat := 165
abbrev spec_l20Field : Nat := 166
abbrev spec_IsOutput : Nat := 167
abbrev spec_FaceProblems : Nat := 168
abbrev laws_toFieldDef : Nat := 169
abbrev laws_toEnumDef : Nat := 170
abbrev slices_ContainsFunc_S_impl_FieldDef_impl_FieldDef : Nat := 171
abbrev impl_tooMany_1 : Nat := 172
abbrev impl_fieldProblems_1 : Nat := 173
abbrev impl_IsOutput : Nat := 174
abbrev impl_FaceProblems : Nat := 175
abbrev impl_typeDef : Nat := 176
abbrev slices_IndexFunc_S_impl_EnumDef_impl_EnumDef : Nat := 177
abbrev laws_eqFieldDef : Nat := 178
abbrev laws_eqEnumDef : Nat := 179
abbrev spec_l11Count : Nat := 180
abbrev spec_IsComposite : Nat := 181
abbrev impl_tooMuch : Nat := 182
abbrev impl_placesOf : Nat := 183
abbrev impl_cloneSels : Nat := 184
abbrev slices_Clip_S_impl_Place_impl_Place : Nat := 185
abbrev impl_IsComposite : Nat := 186
abbrev impl_fieldOf : Nat := 187
abbrev impl_in : Nat := 188
abbrev slices_IndexFunc_S_impl_Root_impl_Root : Nat := 189
abbrev laws_szValueS : Nat := 190
abbrev spec_Fits32 : Nat := 191
abbrev laws_toValueS : Nat := 192
abbrev slices_IndexFunc_S_impl_Arg_impl_Arg : Nat := 193
abbrev strings_TrimSuffix : Nat := 194
abbrev internal_stringslite_HasSuffix : Nat := 195
abbrev strings_CutSuffix : Nat := 196
abbrev slices_IndexFunc_S_impl_Value_impl_Value : Nat := 197
abbrev impl_fitsBuiltIn : Nat := 198
abbrev impl_fitsName_1 : Nat := 199
abbrev impl_fitsInput : Nat := 200
abbrev laws_eqValueS : Nat := 201
abbrev internal_stringslite_HasPrefix : Nat := 202
abbrev spec_l17Flow : Nat := 203
abbrev slices_IndexFunc_S_impl_Def_impl_Def : Nat := 204
abbrev impl_named_1 : Nat := 205
abbrev spec_SubType : Nat := 206
abbrev spec_l20Args : Nat := 207
abbrev slices_IndexFunc_S_impl_FieldDef_impl_FieldDef : Nat := 208
abbrev impl_sameFieldProblems : Nat := 209
abbrev impl_TypeAt : Nat := 210
abbrev impl_tooMuch_1 : Nat := 211
abbrev impl_below : Nat := 212
abbrev impl_cloneArgs : Nat := 213
abbrev impl_cloneDirs : Nat := 214
abbrev impl_fieldOf_1 : Nat := 215
abbrev spec_IntOk : Nat := 216
abbrev internal_stringslite_TrimSuffix : Nat := 217
abbrev internal_stringslite_CutSuffix : Nat := 218
abbrev impl_Fits32 : Nat := 219
abbrev slices_ContainsFunc_S_string_string : Nat := 220
abbrev impl_fitsInput_1 : Nat := 221
abbrev spec_l18Below : Nat := 222
abbrev impl_SubType : Nat := 223
abbrev impl_cloneValue : Nat := 224
abbrev spec_l03Int : Nat := 225
abbrev strconv_ParseInt : Nat := 226
abbrev impl_IntOk : Nat := 227
abbrev slices_IndexFunc_S_string_string : Nat := 228
abbrev impl_unwrapped : Nat := 229
abbrev impl_subName : Nat := 230
abbrev slices_Clone_S_string_string : Nat := 231
abbrev spec_l03Run : Nat := 232
abbrev internal_strconv_ParseInt : Nat := 233
abbrev strconv_toError : Nat := 234
abbrev strings_TrimPrefix : Nat := 235
abbrev impl_figures : Nat := 236
abbrev spec_l03Figure : Nat := 237
abbrev internal_strconv_ParseUint : Nat := 238
abbrev strconv_syntaxError : Nat := 239
abbrev strconv_rangeError : Nat := 240
abbrev strconv_baseError : Nat := 241
abbrev strconv_bitSizeError : Nat := 242
abbrev internal_stringslite_TrimPrefix : Nat := 243
abbrev impl_isFigure : Nat := 244
abbrev internal_strconv_lower : Nat := 245
abbrev internal_strconv_underscoreOK : Nat := 246
abbrev internal_stringslite_Clone : Nat := 247
abbrev errors_New : Nat := 248
abbrev strconv_Itoa : Nat := 249
abbrev internal_strconv_Itoa : Nat := 250
abbrev internal_strconv_FormatInt : Nat := 251
abbrev internal_strconv_small : Nat := 252
abbrev internal_strconv_numDigits : Nat := 253
abbrev internal_strconv_formatBase10 : Nat := 254
abbrev internal_strconv_formatBits : Nat := 255
abbrev internal_strconv_log10Pow2 : Nat := 256
abbrev math_bits_Len64 : Nat := 257
abbrev internal_strconv_bool2_int : Nat := 258
abbrev internal_strconv_isPowerOfTwo : Nat := 259
abbrev math_bits_TrailingZeros : Nat := 260
abbrev math_bits_TrailingZeros32 : Nat := 261
abbrev math_bits_TrailingZeros64 : Nat := 262
abbrev runtime_boundsError_Error : Nat := 263
abbrev runtime_boundsError_RuntimeError : Nat := 264
abbrev runtime_errorString_Error : Nat := 265
abbrev runtime_errorString_RuntimeError : Nat := 266
abbrev runtime_plainError_Error : Nat := 267
abbrev runtime_plainError_RuntimeError : Nat := 268
abbrev runtime_errorAddressString_Error : Nat := 269
abbrev runtime_errorAddressString_RuntimeError : Nat := 270
abbrev runtime_TypeAssertionError_Error : Nat := 271
abbrev runtime_TypeAssertionError_RuntimeError : Nat := 272
abbrev runtime_PanicNilError_Error : Nat := 273
abbrev runtime_PanicNilError_RuntimeError : Nat := 274
abbrev internal_abi_Type_Align : Nat := 275
abbrev internal_runtime_maps_unhashableTypeError_Error : Nat := 276
abbrev internal_runtime_maps_unhashableTypeError_RuntimeError : Nat := 277
abbrev internal_strconv_Error_Error : Nat := 278
abbrev strconv_NumError_Error : Nat := 279
abbrev errors_errorString_Error : Nat := 280
abbrev internal_abi_Kind_String : Nat := 281
abbrev var_s_door_gosem_cut_vars_holds_initialisers_alone_see_the_manifest_s_row_cutvarsword_look_11_test_files_too : Nat := 282
abbrev var_s_door_internal_strconv_uint64pow10_is_laid_by_its_own_initialiser_plain_data_look_11 : Nat := 283
abbrev var_s_door_math_bits_deBruijn32tab_is_laid_by_its_own_initialiser_plain_data_look_11 : Nat := 284
abbrev var_s_door_math_bits_deBruijn64tab_is_laid_by_its_own_initialiser_plain_data_look_11 : Nat := 285
abbrev var_s_door_strconv_ErrRange_is_laid_by_its_own_call_of_errors_New_on_one_literal_look_11 : Nat := 286
abbrev var_s_door_strconv_ErrSyntax_is_laid_by_its_own_call_of_errors_New_on_one_literal_look_11 : Nat := 287
abbrev var_s_door_the_look_of_gosem_cut_vars_went_over_the_folder_that_the_caller_named_as_the_repository_s_root_look_11 : Nat := 288
abbrev gosem_cut_vars : Nat := 289
end F
namespace T
abbrev t0 : Nat := 0
abbrev t1 : Nat := 1
abbrev int64 : Nat := 2
abbrev int : Nat := 3
abbrev bool : Nat := 4
abbrev uint8 : Nat := 5
abbrev internal_abi_BoundsErrorCode : Nat := 6
abbrev t7 : Nat := 7
abbrev runtime_boundsError : Nat := 8
abbrev string : Nat := 9
abbrev runtime_errorString : Nat := 10
abbrev runtime_plainError : Nat := 11
abbrev uintptr : Nat := 12
abbrev t13 : Nat := 13
abbrev runtime_errorAddressString : Nat := 14
abbrev t15 : Nat := 15
abbrev t16 : Nat := 16
abbrev t17 : Nat := 17
abbrev t18 : Nat := 18
abbrev internal_runtime_maps_unhashableTypeError : Nat := 19
abbrev t20 : Nat := 20
abbrev int32 : Nat := 21
abbrev t22 : Nat := 22
abbrev t23 : Nat := 23
abbrev t24 : Nat := 24
abbrev laws_Schema : Nat := 25
abbrev t26 : Nat := 26
abbrev t27 : Nat := 27
abbrev t28 : Nat := 28
abbrev t29 : Nat := 29
abbrev t30 : Nat := 30
abbrev t31 : Nat := 31
abbrev t32 : Nat := 32
abbrev t33 : Nat := 33
abbrev t34 : Nat := 34
abbrev t35 : Nat := 35
abbrev impl_Schema : Nat := 36
abbrev t37 : Nat := 37
abbrev t38 : Nat := 38
abbrev t39 : Nat := 39
abbrev t40 : Nat := 40
abbrev t41 : Nat := 41
abbrev t42 : Nat := 42
abbrev t43 : Nat := 43
abbrev t44 : Nat := 44
abbrev t45 : Nat := 45
abbrev t46 : Nat := 46
abbrev t47 : Nat := 47
abbrev t48 : Nat := 48
abbrev t49 : Nat := 49
abbrev t50 : Nat := 50
abbrev t51 : Nat := 51
abbrev t52 : Nat := 52
abbrev t53 : Nat := 53
abbrev t54 : Nat := 54
abbrev t55 : Nat := 55
abbrev t56 : Nat := 56
abbrev t57 : Nat := 57
abbrev t58 : Nat := 58
abbrev t59 : Nat := 59
abbrev t60 : Nat := 60
abbrev t61 : Nat := 61
abbrev t62 : Nat := 62
abbrev t63 : Nat := 63
abbrev t64 : Nat := 64
abbrev laws_Def : Nat := 65
abbrev t66 : Nat := 66
abbrev t67 : Nat := 67
abbrev t68 : Nat := 68
abbrev t69 : Nat := 69
abbrev t70 : Nat := 70
abbrev impl_Def : Nat := 71
abbrev t72 : Nat := 72
abbrev t73 : Nat := 73
abbrev t74 : Nat := 74
abbrev t75 : Nat := 75
abbrev t76 : Nat := 76
abbrev t77 : Nat := 77
abbrev t78 : Nat := 78
abbrev t79 : Nat := 79
abbrev t80 : Nat := 80
abbrev t81 : Nat := 81
abbrev t82 : Nat := 82
abbrev t83 : Nat := 83
abbrev t84 : Nat := 84
abbrev t85 : Nat := 85
abbrev t86 : Nat := 86
abbrev t87 : Nat := 87
abbrev t88 : Nat := 88
abbrev t89 : Nat := 89
abbrev laws_Type : Nat := 90
abbrev t91 : Nat := 91
abbrev t92 : Nat := 92
abbrev laws_Value : Nat := 93
abbrev t94 : Nat := 94
abbrev laws_InDef : Nat := 95
abbrev t96 : Nat := 96
abbrev t97 : Nat := 97
abbrev laws_Arg : Nat := 98
abbrev t99 : Nat := 99
abbrev impl_Problem : Nat := 100
abbrev t101 : Nat := 101
abbrev t102 : Nat := 102
abbrev impl_Value : Nat := 103
abbrev t104 : Nat := 104
abbrev impl_Arg : Nat := 105
abbrev t106 : Nat := 106
abbrev t107 : Nat := 107
abbrev t108 : Nat := 108
abbrev impl_Type : Nat := 109
abbrev t110 : Nat := 110
abbrev impl_InDef : Nat := 111
abbrev t112 : Nat := 112
abbrev t113 : Nat := 113
abbrev t114 : Nat := 114
abbrev t115 : Nat := 115
abbrev t116 : Nat := 116
abbrev t117 : Nat := 117
abbrev t118 : Nat := 118
abbrev impl_problems : Nat := 119
abbrev t120 : Nat := 120
abbrev t121 : Nat := 121
abbrev t122 : Nat := 122
abbrev t123 : Nat := 123
abbrev t124 : Nat := 124
abbrev t125 : Nat := 125
abbrev t126 : Nat := 126
abbrev t127 : Nat := 127
abbrev t128 : Nat := 128
abbrev t129 : Nat := 129
abbrev t130 : Nat := 130
abbrev t131 : Nat := 131
abbrev t132 : Nat := 132
abbrev t133 : Nat := 133
abbrev t134 : Nat := 134
abbrev t135 : Nat := 135
abbrev t136 : Nat := 136
abbrev laws_Dir : Nat := 137
abbrev t138 : Nat := 138
abbrev impl_Dir : Nat := 139
abbrev t140 : Nat := 140
abbrev t141 : Nat := 141
abbrev t142 : Nat := 142
abbrev t143 : Nat := 143
abbrev t144 : Nat := 144
abbrev t145 : Nat := 145
abbrev t146 : Nat := 146
abbrev t147 : Nat := 147
abbrev t148 : Nat := 148
abbrev t149 : Nat := 149
abbrev t150 : Nat := 150
abbrev t151 : Nat := 151
abbrev t152 : Nat := 152
abbrev t153 : Nat := 153
abbrev t154 : Nat := 154
abbrev t155 : Nat := 155
abbrev t156 : Nat := 156
abbrev impl_EnumDef : Nat := 157
abbrev t158 : Nat := 158
abbrev t159 : Nat := 159
abbrev t160 : Nat := 160
abbrev t161 : Nat := 161
abbrev t162 : Nat := 162
abbrev t163 : Nat := 163
abbrev t164 : Nat := 164
abbrev t165 : Nat := 165
abbrev t166 : Nat := 166
abbrev laws_Sel : Nat := 167
abbrev t168 : Nat := 168
abbrev t169 : Nat := 169
abbrev t170 : Nat := 170
abbrev t171 : Nat := 171
abbrev impl_Sel : Nat := 172
abbrev t173 : Nat := 173
abbrev impl_Place : Nat := 174
abbrev t175 : Nat := 175
abbrev impl_FieldDef : Nat := 176
abbrev t177 : Nat := 177
abbrev t178 : Nat := 178
abbrev t179 : Nat := 179
abbrev t180 : Nat := 180
abbrev t181 : Nat := 181
abbrev t182 : Nat := 182
abbrev t183 : Nat := 183
abbrev t184 : Nat := 184
abbrev impl_Root : Nat := 185
abbrev t186 : Nat := 186
abbrev t187 : Nat := 187
abbrev t188 : Nat := 188
abbrev laws_Root : Nat := 189
abbrev t190 : Nat := 190
abbrev t191 : Nat := 191
abbrev t192 : Nat := 192
abbrev t193 : Nat := 193
abbrev t194 : Nat := 194
abbrev t195 : Nat := 195
abbrev t196 : Nat := 196
abbrev t197 : Nat := 197
abbrev t198 : Nat := 198
abbrev t199 : Nat := 199
abbrev t200 : Nat := 200
abbrev t201 : Nat := 201
abbrev t202 : Nat := 202
abbrev t203 : Nat := 203
abbrev t204 : Nat := 204
abbrev t205 : Nat := 205
abbrev t206 : Nat := 206
abbrev t207 : Nat := 207
abbrev t208 : Nat := 208
abbrev t209 : Nat := 209
abbrev t210 : Nat := 210
abbrev t211 : Nat := 211
abbrev t212 : Nat := 212
abbrev t213 : Nat := 213
abbrev t214 : Nat := 214
abbrev t215 : Nat := 215
abbrev t216 : Nat := 216
abbrev laws_FieldDef : Nat := 217
abbrev t218 : Nat := 218
abbrev t219 : Nat := 219
abbrev laws_EnumDef : Nat := 220
abbrev t221 : Nat := 221
abbrev t222 : Nat := 222
abbrev t223 : Nat := 223
abbrev t224 : Nat := 224
abbrev t225 : Nat := 225
abbrev t226 : Nat := 226
abbrev t227 : Nat := 227
abbrev t228 : Nat := 228
abbrev t229 : Nat := 229
abbrev t230 : Nat := 230
abbrev t231 : Nat := 231
abbrev t232 : Nat := 232
abbrev t233 : Nat := 233
abbrev t234 : Nat := 234
abbrev t235 : Nat := 235
abbrev t236 : Nat := 236
abbrev t237 : Nat := 237
abbrev t238 : Nat := 238
abbrev t239 : Nat := 239
abbrev t240 : Nat := 240
abbrev t241 : Nat := 241
abbrev t242 : Nat := 242
abbrev t243 : Nat := 243
abbrev t244 : Nat := 244
abbrev t245 : Nat := 245
abbrev t246 : Nat := 246
abbrev t247 : Nat := 247
abbrev t248 : Nat := 248
abbrev t249 : Nat := 249
abbrev t250 : Nat := 250
abbrev t251 : Nat := 251
abbrev t252 : Nat := 252
abbrev t253 : Nat := 253
abbrev t254 : Nat := 254
abbrev t255 : Nat := 255
abbrev t256 : Nat := 256
abbrev t257 : Nat := 257
abbrev t258 : Nat := 258
abbrev t259 : Nat := 259
abbrev error : Nat := 260
abbrev t261 : Nat := 261
abbrev t262 : Nat := 262
abbrev t263 : Nat := 263
abbrev t264 : Nat := 264
abbrev t265 : Nat := 265
abbrev t266 : Nat := 266
abbrev t267 : Nat := 267
abbrev t268 : Nat := 268
abbrev internal_strconv_Error : Nat := 269
abbrev uint64 : Nat := 270
abbrev t271 : Nat := 271
abbrev t272 : Nat := 272
abbrev uint : Nat := 273
abbrev t274 : Nat := 274
abbrev t275 : Nat := 275
abbrev t276 : Nat := 276
abbrev t277 : Nat := 277
abbrev t278 : Nat := 278
abbrev t279 : Nat := 279
abbrev strconv_NumError : Nat := 280
abbrev t281 : Nat := 281
abbrev t282 : Nat := 282
abbrev t283 : Nat := 283
abbrev t284 : Nat := 284
abbrev errors_errorString : Nat := 285
abbrev t286 : Nat := 286
abbrev t287 : Nat := 287
abbrev t288 : Nat := 288
abbrev t289 : Nat := 289
abbrev t290 : Nat := 290
abbrev t291 : Nat := 291
abbrev t292 : Nat := 292
abbrev t293 : Nat := 293
abbrev t294 : Nat := 294
abbrev uint32 : Nat := 295
abbrev t296 : Nat := 296
abbrev t297 : Nat := 297
abbrev t298 : Nat := 298
abbrev t299 : Nat := 299
abbrev t300 : Nat := 300
abbrev t301 : Nat := 301
abbrev t302 : Nat := 302
abbrev t303 : Nat := 303
abbrev runtime_TypeAssertionError : Nat := 304
abbrev t305 : Nat := 305
abbrev t306 : Nat := 306
abbrev runtime_PanicNilError : Nat := 307
abbrev t308 : Nat := 308
abbrev internal_abi_TFlag : Nat := 309
abbrev internal_abi_Kind : Nat := 310
abbrev t311 : Nat := 311
abbrev internal_abi_NameOff : Nat := 312
abbrev internal_abi_TypeOff : Nat := 313
abbrev t314 : Nat := 314
abbrev internal_abi_Type : Nat := 315
abbrev t316 : Nat := 316
end T
end Go.Vs
end
section
open Go Go.Vs Go.Proofs
namespace Go.Vs
def Hs : FuncId → Hints := fun f => match f with
  | 5 => Tab.hints ⟨[[], [], [], [], [], [], [], [], [], [], [5, 6], [], [2], [3, 4], [], [], [], [], [], [], [], [], [0], [], [], [], [], [], [], [], [], [], [], [3, 5, 6], [0, 1], [], [], [0], [], [], [], [], []], [[], [], [], [], [], [], [], [], [], [], [], [], [], [], [], [], [], [], [], [], [], [2], [2], [], [], [], [2], [], [2], [], [], [], [], [], [], [], [], [2], [], [], [], [], []], [[], [], [], [], [], [], [], [], [], [], [], [], [], [], [], [], [], [], [], [], [], [], [], [], [], [], [], [], [], [], [], [], [], [], [], [], [], [], [], [], [], [], []], [], [], [[0, 6], [16, 17], [], [], [19, 20, 21], [22], [], [24, 25, 26], [7, 27], [], [29, 30, 31, 32, 33, 34], [35, 36], [37, 38], [39, 40, 41, 42], [43, 44, 45], [], [47, 48, 49, 50], [], [52, 53, 54, 55], [], [], [9, 57, 58, 59], [10, 60, 61, 62], [12, 63, 64, 65, 66, 67, 68, 69], [], [], [71, 72, 73], [], [74, 75, 76], [77], [], [14, 79, 80], [], [1, 2, 3, 82, 83, 84, 85, 86, 87], [8, 15, 88, 89, 90], [], [], [11, 92, 93, 94], [95], [], [13, 14, 97, 98], [], []], [[], [], [], [], [], [], [], [], [], [], [], [], [], [], [], [], [], [], [], [], [], [], [], [], [], [], [], [], [], [], [], [], [], [], [], [], [], [], [], [], [], [], []], [(18, ([18, 2, 1, 3], [])), (23, ([23, 3, 1, 2, 7], [])), (28, ([28, 2, 1, 3], [])), (46, ([46, 3, 1, 2, 8, 11, 10, 9], [])), (51, ([51, 9, 10, 11, 8, 2, 1, 3], [])), (56, ([56, 3, 1, 2, 8, 11, 10, 9], [])), (70, ([70, 11, 8, 2, 1, 3], [])), (78, ([78, 3, 1, 2, 8, 13, 11, 14], [])), (81, ([81, 11, 13, 8, 2, 1, 3], [])), (91, ([91, 13, 11], [])), (96, ([96, 13, 14], [])), (99, ([99], []))], [(18, ([18], [])), (23, ([23], [])), (28, ([28], [])), (46, ([46], [])), (51, ([51], [])), (56, ([56], [])), (70, ([70], [])), (78, ([78], [])), (81, ([81], [])), (91, ([91], [])), (96, ([96], [])), (99, ([99], []))], []⟩
  | 9 => Tab.hints ⟨[[], [], [], [], [], [], [], [], [], [], []], [[], [], [], [], [], [], [], [], [], [], []], [[], [], [], [], [], [], [], [], [], [], []], [], [], [[0, 4], [5, 6, 7, 8], [9], [], [11, 12, 13, 14], [15], [], [2, 17, 18, 19, 20], [21], [], [1, 23]], [[], [], [], [], [], [], [], [2], [], [], []], [(10, ([10, 2, 1], [2])), (16, ([16, 1, 2], [2])), (22, ([22, 1], []))], [(10, ([10], [])), (16, ([16], [])), (22, ([22], []))], []⟩
  | 10 => Tab.hints ⟨[[], [], [], [], [], [], [], [], [], [], []], [[], [], [], [], [], [], [], [], [], [], []], [[], [], [], [], [], [], [], [], [], [], []], [(0, [2, 3, 4, 6, 7, 8, 9, 10, 11, 12, 13, 14, 15, 16, 17, 18, 19, 20, 21, 22, 23, 24, 25, 26])], [], [[4], [6, 7, 8, 9], [10], [], [], [12, 13, 14], [16, 17], [18, 19, 20, 21, 22, 23], [24], [], [1, 26]], [[], [], [], [], [], [], [], [], [], [], []], [(11, ([11, 0, 1], [])), (15, ([15], [])), (25, ([25, 0, 1, 5], []))], [(11, ([11], [])), (15, ([15, 0, 5], [])), (25, ([25], []))], []⟩
  | 11 => Tab.hints ⟨[[], [], [], [], [], [], [], [], [], [], []], [[], [], [], [], [], [], [], [], [], [], []], [[], [], [], [], [], [], [], [], [], [], []], [(0, [2, 3, 4, 6, 7, 8, 9, 10, 11, 12, 13, 14, 15, 16, 17, 18, 19, 20, 21, 22, 23, 24, 25, 26])], [], [[4], [6, 7, 8, 9], [10], [], [], [12, 13, 14], [16, 17], [18, 19, 20, 21, 22, 23], [24], [], [1, 26]], [[], [], [], [], [], [], [], [], [], [], []], [(11, ([11, 0, 1], [])), (15, ([15], [])), (25, ([25, 0, 1, 5], []))], [(11, ([11], [])), (15, ([15, 0, 5], [])), (25, ([25], []))], []⟩
  | 12 => Tab.hints ⟨[[1], [1], [1], [], [0, 5], [], [], [], [], [], [0, 7], [], [], [0, 7], [], [0, 7], [0, 5], [0, 1, 2], [], [], [], [], [0, 9], [0, 1]], [[], [], [], [], [], [], [], [], [], [], [], [], [], [], [], [], [], [], [], [], [], [], [], []], [[], [], [], [], [], [], [], [], [], [], [], [], [], [], [], [], [], [], [], [], [], [], [], []], [(0, [0, 5, 6, 7, 8, 12, 13, 14, 15, 16, 17, 18, 19, 20, 21, 22, 23, 24, 25, 26, 27, 28, 29, 30, 31, 32, 33, 34, 35, 36, 37, 38, 39, 40, 41, 42, 43, 44, 45, 46, 47, 48, 49, 50, 51, 52, 53, 54, 55, 56, 57, 58, 59, 60, 61, 62, 63, 64, 65, 66, 67, 68, 69, 70, 71, 72, 73, 74, 75, 76, 77, 78, 79, 80, 81, 82, 83, 84, 85, 86, 87, 88, 89, 90, 91, 92, 93, 94, 95, 96, 97, 98, 99, 100, 101, 102, 103, 104, 105, 106, 107, 108, 109, 110, 111]), (2, [0, 2, 3, 4, 5, 6, 7, 8, 11, 12, 13, 16, 17, 18, 19, 20, 21, 22, 23, 24, 25, 26, 27, 28, 29, 30, 31, 32, 33, 34, 35, 36, 37, 38, 39, 40, 41, 42, 43, 44, 45, 46, 47, 48, 49, 50, 51, 52, 53, 54, 55, 56, 57, 58, 59, 60, 61, 62, 63, 64, 65, 66, 67, 68, 69, 70, 71, 72, 73, 74, 75, 76, 77, 78, 79, 80, 81, 82, 83, 84, 85, 86, 87, 88, 89, 90, 91, 92, 93, 94, 95, 96, 97, 98, 99, 100, 101, 102, 103, 104, 105, 106, 107, 108, 109, 110, 111])], [(0, [12])], [[0, 8], [16], [17], [18, 19, 20, 21, 22, 23, 24], [1, 9, 26, 27, 28, 29, 30], [], [31, 32, 33], [35, 36], [37, 38, 39, 40], [41, 42, 43], [45, 46, 47, 48, 49, 50, 51], [52, 53, 54, 55], [56], [58, 59, 60, 61, 62, 63, 64], [13, 65, 66, 67, 68, 69, 70, 71, 72, 73], [75, 76, 77, 78, 79, 80, 81], [12, 82, 83, 84, 85, 86], [2, 87, 88], [], [89, 90, 91], [93, 94], [95, 96, 97, 98, 99, 100], [102, 103, 104, 105, 106, 107, 108, 109, 110], [9, 111]], [[], [], [], [], [], [], [], [], [], [], [], [], [], [], [], [], [12], [], [], [], [], [], [], []], [(25, ([25, 3, 2, 4, 10], [4])), (34, ([34], [])), (44, ([44], [])), (57, ([57, 13], [])), (74, ([74], [])), (92, ([92], [])), (101, ([101], []))], [(25, ([25], [])), (34, ([34, 11, 4, 3], [4])), (44, ([44], [])), (57, ([57], [])), (74, ([74], [])), (92, ([92, 15, 14, 1, 10], [])), (101, ([101], []))], []⟩
  | 13 => Tab.hints ⟨[[], [], [], [], [], []], [[], [], [], [], [], []], [[], [], [], [], [], []], [], [], [[0], [], [4, 5, 6, 7], [8, 9, 10, 11], [1, 12, 13, 14, 15], [3, 16]], [[], [], [], [], [1], [3]], [], [], []⟩
  | 14 => Tab.hints ⟨[[0], [3], [], [], [], [], [0, 1]], [[], [], [], [], [], [], []], [[], [], [], [], [], [], []], [(0, [1, 2, 5, 6, 7, 8, 9, 10, 11, 12, 13, 14, 15, 16, 17, 18, 19, 20, 21, 22])], [], [[2], [5, 6, 7], [], [8, 9, 10], [12, 13], [14, 15, 16, 17, 18, 19, 20, 21], [3, 22]], [[], [7], [], [], [], [], []], [(11, ([11], []))], [(11, ([11, 4, 0], []))], []⟩
  | 15 => Tab.hints ⟨[[0], [3], [], [], [], [], [0, 1]], [[], [], [], [], [], [], []], [[], [], [], [], [], [], []], [(0, [1, 2, 5, 6, 7, 8, 9, 10, 11, 12, 13, 14, 15, 16, 17, 18, 19, 20, 21, 22])], [], [[2], [5, 6, 7], [], [8, 9, 10], [12, 13], [14, 15, 16, 17, 18, 19, 20, 21], [3, 22]], [[], [7], [], [], [], [], []], [(11, ([11], []))], [(11, ([11, 4, 0], []))], []⟩
  | 16 => Tab.hints ⟨[[1], [0], [], [], [3, 4], [], [], [], [], [], [], [], [], [0, 1], [], [], [], [], [3, 4]], [[], [], [], [2], [], [], [], [], [10], [], [6], [19], [], [], [], [], [7], [], []], [[], [], [], [], [], [], [], [], [], [], [], [], [], [], [], [], [], [], []], [(0, [0, 5, 6, 7, 8, 10, 11, 12, 13, 14, 15, 16, 17, 18, 19, 20, 21, 22, 23, 24, 25, 26, 27, 28, 29, 30, 31, 35, 36, 37, 38, 39, 40, 41, 42, 43, 44, 45, 46, 47, 48, 49, 50, 51, 52, 53, 54, 55, 56, 57, 58, 59, 60, 61, 62, 63, 64, 65, 66, 67, 68, 69, 70, 71, 72, 73, 74, 75, 76, 77, 78, 79, 80, 81, 82, 83, 84, 85, 86, 87, 88, 89, 90, 91, 92, 93, 94, 95, 96, 97, 98, 99, 100, 101]), (2, [0, 2, 4, 5, 6, 7, 8, 10, 11, 12, 13, 14, 15, 16, 17, 18, 19, 20, 21, 22, 23, 24, 25, 26, 27, 28, 29, 30, 31, 32, 33, 34, 35, 36, 37, 38, 39, 40, 41, 42, 43, 44, 45, 46, 47, 48, 49, 50, 51, 52, 53, 54, 55, 56, 57, 58, 59, 60, 61, 62, 63, 64, 65, 66, 67, 68, 69, 70, 71, 72, 73, 74, 75, 76, 77, 78, 79, 80, 81, 82, 86, 87, 88, 89, 90, 91, 92, 93, 94, 95, 96, 97, 98, 99, 100, 101])], [(0, [11])], [[0, 8], [15, 16], [17, 18, 19, 20, 21, 22, 23], [1, 25, 26, 27], [9, 28, 29, 30, 31], [], [], [36, 37, 38], [10, 39, 40, 41, 42, 43, 44, 45, 46, 47, 48, 49], [50, 51, 52, 53], [54, 55, 56, 57, 58, 59, 60], [11, 12, 61, 62, 63, 64, 65, 66, 67, 68, 69, 70, 71, 72, 73, 74, 75, 76, 77, 78, 79, 80], [81], [2, 82], [], [87, 88], [14, 89, 90, 91, 92, 93, 94, 95, 96], [97], [9, 98, 99, 100, 101]], [[], [16], [], [], [], [], [], [], [], [], [], [11], [], [], [], [], [], [], []], [(24, ([24, 3, 4, 2], [4])), (35, ([35], [])), (86, ([86], []))], [(24, ([24], [])), (35, ([35, 34, 4, 32, 33], [4])), (86, ([86, 85, 1, 3, 83, 84], []))], []⟩
  | 17 => Tab.hints ⟨[[], [], [], [], [], [], [], [], []], [[], [], [], [], [], [], [], [], []], [[], [], [], [], [], [], [], [], []], [(0, [2, 3, 4, 6, 7, 8, 9, 10, 11, 12, 13, 14, 15, 16, 17, 18, 19, 20, 21, 22, 23, 24, 25, 26])], [], [[4], [6, 7, 8, 9], [], [], [11, 12, 13], [15, 16], [17, 18, 19, 20, 21, 22, 23, 24, 25], [], []], [[], [], [], [], [], [], [], [], []], [(10, ([10, 0, 1], [])), (14, ([14], [])), (26, ([26, 0, 1, 5], []))], [(10, ([10], [])), (14, ([14, 0, 1, 5], [])), (26, ([26], []))], []⟩
  | 18 => Tab.hints ⟨[[], [], [], [], [], [], [], []], [[], [], [], [], [], [], [], []], [[], [], [], [], [], [], [], []], [], [], [[0, 1, 4], [5, 6, 7, 8, 9], [], [11, 12, 13, 14, 15], [], [2, 3, 17, 18, 19, 20, 21], [], []], [[], [], [], [], [], [2, 3], [], []], [(10, ([10, 2, 3], [2, 3])), (16, ([16, 3, 2], [2, 3])), (22, ([22], []))], [(10, ([10], [])), (16, ([16], [])), (22, ([22], []))], []⟩
  | 19 => Tab.hints ⟨[[], [], [], [], [], [], [], [], []], [[], [], [], [], [], [], [], [], []], [[], [], [], [], [], [], [], [], []], [(0, [2, 3, 4, 6, 7, 8, 9, 10, 11, 12, 13, 14, 15, 16, 17, 18, 19, 20, 21, 22, 23, 24, 25, 26])], [], [[4], [6, 7, 8, 9], [], [], [11, 12, 13], [15, 16], [17, 18, 19, 20, 21, 22, 23, 24, 25], [], []], [[], [], [], [], [], [], [], [], []], [(10, ([10, 0, 1], [])), (14, ([14], [])), (26, ([26, 0, 1, 5], []))], [(10, ([10], [])), (14, ([14, 0, 1, 5], [])), (26, ([26], []))], []⟩
  | 20 => Tab.hints ⟨[[], [], [], [], [], [], [], [], []], [[], [], [], [], [], [], [], [], []], [[], [], [], [], [], [], [], [], []], [(0, [2, 3, 4, 6, 7, 8, 9, 10, 11, 12, 13, 14, 15, 16, 17, 18, 19, 20, 21, 22, 23, 24, 25, 26])], [], [[4], [6, 7, 8, 9], [], [], [11, 12, 13], [15, 16], [17, 18, 19, 20, 21, 22, 23, 24, 25], [], []], [[], [], [], [], [], [], [], [], []], [(10, ([10, 0, 1], [])), (14, ([14], [])), (26, ([26, 0, 1, 5], []))], [(10, ([10], [])), (14, ([14, 0, 1, 5], [])), (26, ([26], []))], []⟩
  | 21 => Tab.hints ⟨[[], [], [], [], []], [[], [], [], [], []], [[], [], [], [], []], [], [], [[0, 4], [5, 6, 7, 8], [9, 10, 11, 12], [2, 13, 14, 15, 16], [1, 17]], [[], [], [], [2], []], [], [], []⟩
  | 22 => Tab.hints ⟨[[], [], [], [], [], [], [], [], [], [], [], [], [], [], [], [], [], [], [], [], [], []], [[], [], [], [], [], [], [], [], [], [], [], [], [], [], [], [], [], [], [], [], [], []], [[], [], [], [], [], [], [], [], [], [], [], [], [], [], [], [], [], [], [], [], [], []], [(0, [2, 3, 4, 6, 7, 8, 9, 10, 11, 12, 13, 14, 15, 16, 17, 18, 19, 20, 21, 22, 23, 24, 25, 26, 27, 28, 29, 30, 31, 32, 33, 34, 35, 36, 37, 38, 39, 40, 41, 42, 43, 44, 45, 46, 47, 48, 49, 50, 51, 52, 53, 54, 55, 56, 57, 58, 59, 60, 61, 62, 63, 64, 65, 66, 67, 68, 69, 70, 71, 72, 73, 74, 75, 76, 77, 78, 79, 80, 81, 82, 83, 84, 85, 86, 87, 88, 89, 90, 91, 92, 93, 94, 95])], [], [[4], [], [6, 7, 8], [10, 11], [12, 13, 14, 15, 16, 17], [18, 19], [20, 21, 22, 23, 24, 25], [26, 27], [28, 29, 30, 31, 32, 33, 34], [35, 36], [37, 38, 39, 40, 41, 42, 43], [44, 45], [46, 47, 48, 49, 50, 51, 52], [53, 54], [55, 56, 57, 58, 59, 60], [61, 62], [63, 64, 65, 66, 67, 68, 69], [70, 71], [72, 73, 74, 75, 76, 77, 78, 79], [80, 81, 82, 83, 84, 85, 86, 87], [88, 89, 90, 91, 92, 93, 94], [1, 95]], [[], [], [], [], [], [], [], [], [], [], [], [], [], [], [], [], [], [], [], [], [], []], [(9, ([9], []))], [(9, ([9, 5, 0], []))], []⟩
  | 23 => Tab.hints ⟨[[], [], [], [], [], [], [], [], [], [], [], [], []], [[], [], [], [], [], [], [], [], [], [], [], [], []], [[], [], [], [], [], [], [], [], [], [], [], [], []], [(0, [2, 3, 4, 6, 7, 8, 9, 10, 11, 12, 13, 14, 15, 16, 17, 18, 19, 20, 21, 22, 23, 24, 25, 26, 27, 28, 29, 30, 31, 32, 33, 34, 35, 36, 37, 38, 39, 40, 41, 42, 43, 44, 45, 46, 47, 48, 49, 50, 51, 52, 53])], [], [[4], [], [6, 7, 8], [10, 11], [12, 13, 14, 15, 16, 17], [18, 19], [20, 21, 22, 23, 24, 25], [26, 27], [28, 29, 30, 31, 32, 33, 34], [35, 36], [37, 38, 39, 40, 41, 42, 43, 44], [45, 46, 47, 48, 49, 50, 51, 52], [1, 53]], [[], [], [], [], [], [], [], [], [], [], [], [], []], [(9, ([9], []))], [(9, ([9, 5, 0], []))], []⟩
  | 24 => Tab.hints ⟨[[], [], [], [], [], [], [], [], [], [], []], [[], [], [], [], [], [], [], [], [], [], []], [[], [], [], [], [], [], [], [], [], [], []], [(0, [2, 3, 4, 6, 7, 8, 9, 10, 11, 12, 13, 14, 15, 16, 17, 18, 19, 20, 21, 22, 23, 24, 25, 26, 27, 28, 29, 30, 31, 32, 33, 34, 35])], [], [[4], [], [6, 7, 8], [10, 11], [12, 13, 14, 15, 16], [17, 18], [19, 20, 21, 22, 23, 24], [25, 26], [27, 28, 29, 30, 31, 32], [33, 34], [1, 35]], [[], [], [], [], [], [], [], [], [], [], []], [(9, ([9], []))], [(9, ([9, 5, 0], []))], []⟩
  | 25 => Tab.hints ⟨[[], [], [], [], [], [], [], [], [], [], [], [], [], []], [[], [], [], [], [], [], [], [], [], [], [], [], [], []], [[], [], [], [], [], [], [], [], [], [], [], [], [], []], [(0, [2, 3, 4, 6, 7, 8, 9, 10, 11, 12, 13, 14, 15, 16, 17, 18, 19, 20, 21, 22, 23, 24, 25, 26, 27, 28, 29, 30, 31, 32, 33, 34, 35, 36, 37, 38, 39, 40, 41])], [], [[4], [], [6, 7, 8], [10, 11], [12, 13, 14, 15, 16, 17], [], [19, 20], [21, 22, 23, 24, 25, 26, 27], [], [29, 30], [31, 32, 33, 34, 35, 36, 37], [], [39, 40], [1, 41]], [[], [], [], [], [], [], [], [], [], [], [], [], [], []], [(9, ([9], [])), (18, ([18, 0, 5, 1], [])), (28, ([28, 5, 0, 1], [])), (38, ([38, 0, 5, 1], []))], [(9, ([9, 0, 5], [])), (18, ([18], [])), (28, ([28], [])), (38, ([38], []))], []⟩
  | 28 => Tab.hints ⟨[[], [], [], [], [], [], [], [], [], [], []], [[], [], [], [], [], [], [], [], [], [], []], [[], [], [], [], [], [], [], [], [], [], []], [(0, [2, 3, 4, 6, 7, 8, 9, 10, 11, 12, 13, 14, 15, 16, 17, 18, 19, 20, 21, 22, 23, 24, 25, 26])], [], [[4], [6, 7, 8, 9], [10], [], [], [12, 13, 14], [16, 17], [18, 19, 20, 21, 22, 23], [24], [], [1, 26]], [[], [], [], [], [], [], [], [], [], [], []], [(11, ([11, 0, 1], [])), (15, ([15], [])), (25, ([25, 0, 1, 5], []))], [(11, ([11], [])), (15, ([15, 0, 5], [])), (25, ([25], []))], []⟩
  | 29 => Tab.hints ⟨[[1], [1], [1], [], [0, 5], [], [], [], [], [], [], [0, 4], [], [0, 6], [], [0, 6], [], [0, 6], [0, 10, 12], [0, 1]], [[], [], [], [], [], [], [], [], [], [], [], [], [], [], [], [], [], [], [], []], [[], [], [], [], [], [], [], [], [], [], [], [], [], [], [], [], [], [], [], []], [(0, [0, 4, 5, 6, 10, 11, 12, 13, 14, 15, 16, 17, 18, 19, 20, 21, 22, 23, 24, 25, 26, 27, 28, 29, 30, 31, 32, 33, 34, 35, 36, 37, 38, 39, 40, 41, 42, 43, 44, 45, 46, 47, 48, 49, 50, 51, 52, 53, 54, 55, 56, 57, 58, 59, 60, 61, 62, 63, 64, 65, 66, 67, 68, 69, 70, 71, 72, 73, 74, 75, 76, 77, 78, 79, 80, 81, 82, 83, 84, 85, 86, 87, 88, 89, 90, 91, 92, 93, 94, 95, 96])], [(0, [11])], [[0, 6], [14], [15], [16, 17], [1, 7, 19, 20, 21, 22, 23], [], [24, 25, 26], [28, 29], [30, 31, 32, 33, 34, 35], [36, 37, 38, 39, 40, 41, 42, 43, 44, 45], [46, 47, 48], [49, 50, 51, 52], [12, 53], [10, 55, 56, 57, 58, 59, 60], [61, 62, 63, 64], [66, 67, 68, 69, 70, 71], [13, 72, 73, 74, 75, 76], [78, 79, 80, 81, 82, 83], [10, 11, 84, 85, 86, 87, 88, 89, 90, 91, 92, 93, 94, 95], [7, 96]], [[], [], [], [], [], [], [], [], [], [], [], [], [], [], [], [], [], [], [11], []], [(18, ([18, 8, 2, 3], [3])), (27, ([27], [])), (54, ([54, 11, 13], [11])), (65, ([65], [])), (77, ([77], []))], [(18, ([18], [])), (27, ([27, 8, 9, 1, 3, 2], [3])), (54, ([54], [])), (65, ([65], [])), (77, ([77], []))], []⟩
  | 30 => Tab.hints ⟨[[0], [3], [], [], [], [], [0, 1]], [[], [], [], [], [], [], []], [[], [], [], [], [], [], []], [(0, [1, 2, 5, 6, 7, 8, 9, 10, 11, 12, 13, 14, 15, 16, 17, 18, 19, 20, 21, 22])], [], [[2], [5, 6, 7], [], [8, 9, 10], [12, 13], [14, 15, 16, 17, 18, 19, 20, 21], [3, 22]], [[], [7], [], [], [], [], []], [(11, ([11], []))], [(11, ([11, 4, 0], []))], []⟩
  | 31 => Tab.hints ⟨[[1], [0], [], [], [3, 4], [], [], [], [], [], [], [], [], [], [7], [], [3, 4]], [[], [], [], [2], [], [], [], [], [], [], [], [3], [8], [9, 13], [8], [], []], [[], [], [], [], [], [], [], [], [], [], [], [], [], [], [], [], []], [(0, [0, 4, 5, 6, 8, 9, 10, 11, 12, 13, 14, 15, 16, 17, 18, 19, 20, 21, 22, 23, 24, 28, 29, 30, 31, 32, 33, 34, 35, 36, 37, 38, 39, 40, 41, 42, 43, 44, 45, 46, 47, 48, 49, 50, 51, 52, 53, 54, 55, 56, 57, 58, 59, 60, 61, 62, 63, 64, 65, 66, 67, 68, 69, 70, 71, 72, 73, 74, 75, 76, 77, 78, 79, 80, 81, 82, 83, 84])], [(0, [9, 11])], [[0, 6], [13, 14], [15, 16], [1, 18, 19, 20], [7, 21, 22, 23, 24], [], [], [29, 30, 31], [32, 33, 34], [35, 36, 37, 38, 39, 40, 41], [12, 42], [10, 44, 45, 46, 47], [48, 49, 50, 51, 52, 53, 54, 55, 56], [8, 57, 58, 59, 60, 61, 62, 63, 64, 65, 66, 67, 68, 69, 70], [9, 10, 11, 71, 72, 73, 74, 75, 76, 77, 78, 79], [80], [7, 81, 82, 83, 84]], [[], [14], [], [], [], [], [], [], [], [], [], [], [], [], [9, 11], [], []], [(17, ([17, 3, 2], [3])), (28, ([28], [])), (43, ([43, 9, 11, 8], [9, 11]))], [(17, ([17], [])), (28, ([28, 27, 1, 2, 3, 25, 26], [3])), (43, ([43], []))], []⟩
  | 32 => Tab.hints ⟨[[], [], [], [], [], [], [], [], []], [[], [], [], [], [], [], [], [], []], [[], [], [], [], [], [], [], [], []], [(0, [2, 3, 4, 6, 7, 8, 9, 10, 11, 12, 13, 14, 15, 16, 17, 18, 19, 20, 21, 22, 23, 24, 25, 26])], [], [[4], [6, 7, 8, 9], [], [], [11, 12, 13], [15, 16], [17, 18, 19, 20, 21, 22, 23, 24, 25], [], []], [[], [], [], [], [], [], [], [], []], [(10, ([10, 0, 1], [])), (14, ([14], [])), (26, ([26, 0, 1, 5], []))], [(10, ([10], [])), (14, ([14, 0, 1, 5], [])), (26, ([26], []))], []⟩
  | 33 => Tab.hints ⟨[[], [], [], [], [], [], [], []], [[], [], [], [], [], [], [], []], [[], [], [], [], [], [], [], []], [(0, [2, 3, 4, 6, 7, 8, 9, 10, 11, 12, 13, 14, 15, 16, 17, 18, 19, 20, 21, 22, 23, 24, 25, 26, 27])], [], [[4], [], [6, 7, 8], [10, 11], [12, 13, 14, 15, 16, 17], [18, 19], [20, 21, 22, 23, 24, 25, 26], [1, 27]], [[], [], [], [], [], [], [], []], [(9, ([9], []))], [(9, ([9, 5, 0], []))], []⟩
  | 34 => Tab.hints ⟨[[], [], [], [], [], [], [], [], [], [], [], [], [], [], [], [], [], [], [], [], [], [], [], [], [], []], [[], [], [], [], [], [], [], [], [], [], [], [], [], [], [], [], [], [], [], [], [], [], [], [], [], []], [[], [], [], [], [], [], [], [], [], [], [], [], [], [], [], [], [], [], [], [], [], [], [], [], [], []], [], [], [[0, 4], [5, 6, 7, 8, 9], [10], [], [12, 13, 14, 15, 16], [17], [], [19, 20, 21, 22], [23], [], [25, 26, 27, 28], [29], [], [31, 32, 33, 34], [35], [], [37, 38, 39, 40], [41], [], [43, 44, 45, 46], [47], [], [2, 49, 50, 51, 52], [53], [], [1, 55]], [[], [], [], [], [], [], [], [], [], [], [], [], [], [], [], [], [], [], [], [], [], [], [2], [], [], []], [(11, ([11, 2, 1], [2])), (18, ([18, 2, 1], [2])), (24, ([24, 2, 1], [2])), (30, ([30, 2, 1], [2])), (36, ([36, 2, 1], [2])), (42, ([42, 2, 1], [2])), (48, ([48, 1, 2], [2])), (54, ([54, 1], []))], [(11, ([11], [])), (18, ([18], [])), (24, ([24], [])), (30, ([30], [])), (36, ([36], [])), (42, ([42], [])), (48, ([48], [])), (54, ([54], []))], []⟩
  | 36 => Tab.hints ⟨[[], [], [], [], [], [], [], [], [], [], [], [], [], []], [[], [], [], [], [], [], [], [], [], [], [], [], [], []], [[], [], [], [], [], [], [], [], [], [], [], [], [], []], [], [], [[0], [], [4, 5, 6], [7, 8, 9], [10, 11, 12], [13, 14, 15], [16, 17, 18, 19], [20, 21, 22, 23], [24, 25, 26, 27], [28, 29, 30, 31], [32, 33, 34, 35], [36, 37, 38], [1, 39, 40, 41, 42], [3, 43]], [[], [], [], [], [], [], [], [], [], [], [], [], [1], [3]], [], [], []⟩
  | 38 => Tab.hints ⟨[[], [], [], [], [], [], [], [], [], [], [], [], [], [], [], [], [], [], [], [], [], [], [], []], [[], [], [], [], [], [], [], [], [], [], [], [], [], [], [], [], [], [], [], [], [], [], [], []], [[], [], [], [], [], [], [], [], [], [], [], [], [], [], [], [], [], [], [], [], [], [], [], []], [], [], [[0, 1, 4], [5, 6, 7, 8], [], [10, 11, 12, 13], [], [15, 16, 17, 18], [], [20, 21, 22, 23], [], [25, 26, 27, 28, 29], [], [31, 32, 33, 34, 35], [], [37, 38, 39, 40, 41], [], [43, 44, 45, 46, 47], [], [49, 50, 51, 52, 53], [], [55, 56, 57, 58], [], [2, 3, 60, 61, 62, 63, 64], [], []], [[], [], [], [], [], [], [], [], [], [], [], [], [], [], [], [], [], [], [], [], [], [2, 3], [], []], [(9, ([9, 2, 3], [2, 3])), (14, ([14, 3, 2], [2, 3])), (19, ([19, 2, 3], [2, 3])), (24, ([24, 3, 2], [2, 3])), (30, ([30, 2, 3], [2, 3])), (36, ([36, 3, 2], [2, 3])), (42, ([42, 2, 3], [2, 3])), (48, ([48, 3, 2], [2, 3])), (54, ([54, 2, 3], [2, 3])), (59, ([59, 3, 2], [2, 3])), (65, ([65], []))], [(9, ([9], [])), (14, ([14], [])), (19, ([19], [])), (24, ([24], [])), (30, ([30], [])), (36, ([36], [])), (42, ([42], [])), (48, ([48], [])), (54, ([54], [])), (59, ([59], [])), (65, ([65], []))], []⟩
  | 48 => Tab.hints ⟨[[], [], [], [], [], [], [], [], [], [], []], [[], [], [], [], [], [], [], [], [], [], []], [[], [], [], [], [], [], [], [], [], [], []], [(0, [2, 3, 4, 6, 7, 8, 9, 10, 11, 12, 13, 14, 15, 16, 17, 18, 19, 20, 21, 22, 23, 24, 25, 26])], [], [[4], [6, 7, 8, 9], [10], [], [], [12, 13, 14], [16, 17], [18, 19, 20, 21, 22, 23], [24], [], [1, 26]], [[], [], [], [], [], [], [], [], [], [], []], [(11, ([11, 0, 1], [])), (15, ([15], [])), (25, ([25, 0, 1, 5], []))], [(11, ([11], [])), (15, ([15, 0, 5], [])), (25, ([25], []))], []⟩
  | 49 => Tab.hints ⟨[[], [], [], [], [], [], [], [], [], [], []], [[], [], [], [], [], [], [], [], [], [], []], [[], [], [], [], [], [], [], [], [], [], []], [(0, [2, 3, 4, 6, 7, 8, 9, 10, 11, 12, 13, 14, 15, 16, 17, 18, 19, 20, 21, 22, 23, 24, 25, 26])], [], [[4], [6, 7, 8, 9], [10], [], [], [12, 13, 14], [16, 17], [18, 19, 20, 21, 22, 23], [24], [], [1, 26]], [[], [], [], [], [], [], [], [], [], [], []], [(11, ([11, 0, 1], [])), (15, ([15], [])), (25, ([25, 0, 1, 5], []))], [(11, ([11], [])), (15, ([15, 0, 5], [])), (25, ([25], []))], []⟩
  | 50 => Tab.hints ⟨[[], [], [], [], [], [], [], [], [], [], [], [], [], [], [], [], []], [[], [], [], [], [], [], [], [], [], [], [], [], [], [], [], [], []], [[], [], [], [], [], [], [], [], [], [], [], [], [], [], [], [], []], [], [], [[0, 4], [5, 6, 7, 8, 9], [10], [], [12, 13, 14, 15, 16], [17], [], [19, 20, 21, 22], [23], [], [25, 26, 27, 28], [29], [], [2, 31, 32, 33, 34], [35], [], [1, 37]], [[], [], [], [], [], [], [], [], [], [], [], [], [], [2], [], [], []], [(11, ([11, 2, 1], [2])), (18, ([18, 2, 1], [2])), (24, ([24, 2, 1], [2])), (30, ([30, 1, 2], [2])), (36, ([36, 1], []))], [(11, ([11], [])), (18, ([18], [])), (24, ([24], [])), (30, ([30], [])), (36, ([36], []))], []⟩
  | 51 => Tab.hints ⟨[[], [], [], [], [], [], [], []], [[], [], [], [], [], [], [], []], [[], [], [], [], [], [], [], []], [], [], [[0, 4], [5, 6, 7, 8, 9], [10], [], [2, 12, 13, 14, 15], [16], [], [1, 18]], [[], [], [], [], [2], [], [], []], [(11, ([11, 1, 2], [2])), (17, ([17, 1], []))], [(11, ([11], [])), (17, ([17], []))], []⟩
  | 52 => Tab.hints ⟨[[], [], [], [], [], [], []], [[], [], [], [], [], [], []], [[], [], [], [], [], [], []], [(0, [2, 3, 4, 6, 7, 8, 9, 10, 11, 12, 13, 14, 15, 16, 17])], [], [[4], [], [6, 7, 8], [10, 11], [12, 13, 14, 15, 16], [], []], [[], [], [], [], [], [], []], [(9, ([9], [])), (17, ([17, 0, 1, 5], []))], [(9, ([9, 0, 1, 5], [])), (17, ([17], []))], []⟩
  | 53 => Tab.hints ⟨[[], [], [], [], [], [], []], [[], [], [], [], [], [], []], [[], [], [], [], [], [], []], [(0, [2, 3, 4, 6, 7, 8, 9, 10, 11, 12, 13, 14, 15, 16, 17, 18, 19])], [], [[4], [], [6, 7, 8], [10, 11], [12, 13, 14, 15, 16, 17], [5, 19], []], [[], [], [], [], [], [], []], [(9, ([9], [])), (18, ([18, 0, 1], []))], [(9, ([9, 0, 1, 5], [])), (18, ([18], []))], []⟩
  | 54 => Tab.hints ⟨[[], [], [], [], [], [], [], [], [], [], [], [], [], [], [], [], [], [], [], [], [], [], [], [], [], [], [], [], [], [], [], [], [], []], [[], [], [], [], [], [], [], [], [], [], [], [], [], [], [], [], [], [], [], [], [], [], [], [], [], [], [], [], [], [], [], [], [], []], [[], [], [], [], [], [], [], [], [], [], [], [], [], [], [], [], [], [], [], [], [], [], [], [], [], [], [], [], [], [], [], [], [], []], [(0, [0, 1, 2, 6, 8, 9, 10, 11, 12, 13, 14, 15, 16, 17, 18, 19, 20, 21, 22, 23, 24, 25, 26, 27, 28, 29, 30, 31, 32, 33, 34, 35, 36, 37, 38, 39, 40, 41, 42, 43, 44, 45, 46, 47, 48, 49, 50, 51, 52, 53, 54, 55, 56, 57, 58, 59, 60, 61, 62, 63, 64, 65, 66, 67, 68, 69, 70, 71, 72, 73, 74, 75, 76, 77, 78, 79, 80, 81, 82, 83, 84, 85, 86, 87, 88, 89, 90, 91, 92, 93, 94, 95, 96, 97, 98, 99, 100, 101, 102, 103, 104, 105, 106, 107, 108, 109, 110, 111, 112, 113, 114, 115, 116, 117, 118, 119, 120, 121, 122, 123]), (3, [0, 1, 2, 3, 5, 6, 7, 8, 11, 12, 13, 14, 15, 16, 17, 18, 19, 20, 21, 22, 23, 24, 25, 26, 27, 28, 29, 30, 31, 32, 33, 34, 35, 36, 37, 38, 39, 40, 41, 42, 43, 44, 45, 46, 47, 48, 49, 50, 51, 52, 53, 54, 55, 56, 57, 58, 59, 60, 61, 62, 63, 64, 65, 66, 67, 68, 69, 70, 71, 72, 73, 74, 75, 76, 77, 78, 79, 80, 81, 82, 83, 84, 85, 86, 87, 88, 89, 90, 91, 92, 93, 94, 95, 96, 97, 98, 99, 100, 101, 102, 103, 104, 105, 106, 107, 108, 109, 110, 111, 112, 113, 114, 115, 116, 117, 118, 119, 120, 121, 122, 123])], [], [[0, 1, 2, 6], [11, 12], [], [14, 15, 16, 17, 18, 19, 20], [5, 22, 23, 24], [25, 26], [27, 28, 29, 30, 31, 32, 33, 34, 35, 36, 37, 38, 39], [41, 42], [43, 44], [3, 4, 5, 46, 47, 48, 49], [], [50, 51, 52, 53], [55, 56], [57, 58, 59, 60, 61, 62, 63, 64], [], [], [66, 67, 68], [], [70, 71, 72, 73], [74], [4, 5, 76, 77, 78, 79, 80, 81, 82, 83, 84], [8, 85, 86, 87, 88, 89], [90], [93], [], [95], [], [96, 97, 98, 99], [101, 102], [103, 104, 105, 106, 107, 108, 109, 110, 111, 112, 113, 114, 115], [], [91, 118], [3, 4, 9, 119, 120, 121, 122, 123], []], [[], [], [], [], [5], [], [], [], [], [3, 4, 5], [], [], [], [], [], [], [], [], [], [], [4, 5], [], [], [], [], [], [], [], [], [], [], [], [3, 4, 9], []], [(13, ([13, 5, 3, 4], [3, 4, 5])), (21, ([21, 4, 3], [3, 4])), (40, ([40], [])), (45, ([45], [])), (54, ([54], [])), (65, ([65, 3, 4, 5, 7], [3, 4, 5])), (69, ([69, 4, 5, 3], [3, 4, 5])), (75, ([75, 3, 8], [3])), (92, ([92, 9, 4, 91, 3], [3, 4, 9])), (94, ([94, 3, 91], [3])), (117, ([117], [])), (100, ([100], [])), (116, ([116, 9, 4, 10], [4, 9]))], [(13, ([13], [])), (21, ([21], [])), (40, ([40], [])), (45, ([45], [])), (54, ([54, 3, 4, 5, 7], [3, 4, 5])), (65, ([65], [])), (69, ([69], [])), (75, ([75, 5], [5])), (92, ([92], [])), (94, ([94], [])), (117, ([117, 3, 9, 4], [3, 4, 9])), (100, ([100, 9, 4, 10], [4, 9])), (116, ([116], []))], []⟩
  | 55 => Tab.hints ⟨[[0], [1], [], [], [], [], [0, 8], [0, 1]], [[], [], [], [], [], [], [], []], [[], [], [], [], [], [], [], []], [(0, [1, 2, 5, 6, 7, 8, 9, 10, 11, 12, 13, 14, 15, 16, 17, 18, 19, 20, 21, 22, 23, 24, 25, 26, 27, 28, 29, 30, 31, 32, 33, 34])], [], [[2], [5], [], [6, 7, 8], [10, 11], [12, 13, 14, 15, 16, 17, 18, 19, 20, 21, 22, 23, 24], [26, 27, 28, 29, 30, 31, 32, 33], [3, 34]], [[], [], [], [], [], [], [], []], [(9, ([9], [])), (25, ([25], []))], [(9, ([9, 4, 0], [])), (25, ([25], []))], []⟩
  | 56 => Tab.hints ⟨[[0], [3], [], [], [], [], [0, 1]], [[], [], [], [], [], [], []], [[], [], [], [], [], [], []], [(0, [1, 2, 5, 6, 7, 8, 9, 10, 11, 12, 13, 14, 15, 16, 17, 18, 19, 20, 21, 22])], [], [[2], [5, 6, 7], [], [8, 9, 10], [12, 13], [14, 15, 16, 17, 18, 19, 20, 21], [3, 22]], [[], [7], [], [], [], [], []], [(11, ([11], []))], [(11, ([11, 4, 0], []))], []⟩
  | 57 => Tab.hints ⟨[[0], [3], [], [], [], [], [0, 1]], [[], [], [], [], [], [], []], [[], [], [], [], [], [], []], [(0, [1, 2, 5, 6, 7, 8, 9, 10, 11, 12, 13, 14, 15, 16, 17, 18, 19, 20, 21, 22])], [], [[2], [5, 6, 7], [], [8, 9, 10], [12, 13], [14, 15, 16, 17, 18, 19, 20, 21], [3, 22]], [[], [7], [], [], [], [], []], [(11, ([11], []))], [(11, ([11, 4, 0], []))], []⟩
  | 58 => Tab.hints ⟨[[], [], [], [], [], [], [], [], []], [[], [], [], [], [], [], [], [], []], [[], [], [], [], [], [], [], [], []], [], [], [[0], [], [4, 5, 6], [7, 8, 9], [10, 11, 12, 13], [14, 15, 16], [17, 18, 19, 20], [1, 21, 22, 23, 24], [3, 25]], [[], [], [], [], [], [], [], [1], [3]], [], [], []⟩
  | 59 => Tab.hints ⟨[[], [], [], [], []], [[], [], [], [], []], [[], [], [], [], []], [], [], [[0], [], [4, 5, 6], [1, 7, 8, 9, 10], [3, 11]], [[], [], [], [1], [3]], [], [], []⟩
  | 60 => Tab.hints ⟨[[], [4]], [[], []], [[], []], [], [], [[1], [0, 2, 3, 4, 11, 12, 13, 14, 15, 16, 17, 18, 19, 20, 21, 22, 23]], [[], []], [(10, ([10], []))], [(10, ([10, 0, 2, 3, 4], []))], []⟩
  | 61 => Tab.hints ⟨[[], [0]], [[], [2]], [[], []], [], [], [[1, 4], [0, 3, 5, 6, 7]], [[], [3]], [], [], []⟩
  | 62 => Tab.hints ⟨[[], [0]], [[], [2]], [[], []], [], [], [[1, 4], [0, 3, 5, 6, 7]], [[], [3]], [], [], []⟩
  | 63 => Tab.hints ⟨[[], [], [], [], [], [], [], [], [], [], [], [], []], [[], [], [], [], [], [], [], [], [], [3], [], [], []], [[], [], [], [], [], [], [], [], [], [], [], [], []], [], [], [[0, 1, 2, 6], [8, 9, 10], [], [12, 13], [5, 14, 15, 16], [17, 18], [20, 21, 22], [23, 24], [3, 4, 5, 26, 27, 28, 29, 30], [3, 4, 5, 31, 32, 33, 34, 35], [37, 38, 39], [], [3, 4, 5, 40, 41, 42, 43, 44]], [[], [], [], [], [5], [], [], [], [3, 4, 5], [3, 4, 5], [], [], [3, 4, 5]], [(7, ([7, 5, 3, 4], [3, 4, 5])), (11, ([11, 4, 3], [3, 4])), (19, ([19], [])), (36, ([36, 5, 4, 3], [3, 4, 5])), (25, ([25], []))], [(7, ([7], [])), (11, ([11], [])), (19, ([19], [])), (36, ([36], [])), (25, ([25], []))], []⟩
  | 64 => Tab.hints ⟨[[0], [1], [0], [], [], [], [0, 5], [], [0, 1]], [[], [], [], [], [], [], [], [], []], [[], [], [], [], [], [], [], [], []], [(0, [0, 1, 2, 4, 5, 6, 10, 11, 12, 13, 14, 15, 16, 17, 18, 19, 20, 21, 22, 23, 24, 25, 26, 27])], [(0, [5])], [[2], [6], [0], [], [11, 12], [13, 14, 15, 16, 17, 18, 19], [5, 21, 22, 23, 24, 25], [26], [3, 27]], [[], [], [], [], [], [], [5], [], []], [(10, ([10], [])), (20, ([20], []))], [(10, ([10, 9, 7, 8], [])), (20, ([20, 5], [5]))], []⟩
  | 65 => Tab.hints ⟨[[], [], [], [], [], [], [], []], [[], [], [], [], [], [], [], []], [[], [], [], [], [], [], [], []], [], [], [[0, 1, 4], [5, 6, 7, 8], [], [10, 11, 12, 13], [], [2, 3, 15, 16, 17, 18], [], []], [[], [], [], [], [], [2, 3], [], []], [(9, ([9, 2, 3], [2, 3])), (14, ([14, 3, 2], [2, 3])), (19, ([19], []))], [(9, ([9], [])), (14, ([14], [])), (19, ([19], []))], []⟩
  | 66 => Tab.hints ⟨[[], [], [], [], [], [], [], [], []], [[], [], [], [], [], [], [], [], []], [[], [], [], [], [], [], [], [], []], [(0, [2, 3, 4, 6, 7, 8, 9, 10, 11, 12, 13, 14, 15, 16, 17, 18, 19, 20, 21, 22, 23, 24, 25, 26])], [], [[4], [6, 7, 8, 9], [], [], [11, 12, 13], [15, 16], [17, 18, 19, 20, 21, 22, 23, 24, 25], [], []], [[], [], [], [], [], [], [], [], []], [(10, ([10, 0, 1], [])), (14, ([14], [])), (26, ([26, 0, 1, 5], []))], [(10, ([10], [])), (14, ([14, 0, 1, 5], [])), (26, ([26], []))], []⟩
  | 67 => Tab.hints ⟨[[], [], [], [], [], [], [], [], []], [[], [], [], [], [], [], [], [], []], [[], [], [], [], [], [], [], [], []], [(0, [2, 3, 4, 6, 7, 8, 9, 10, 11, 12, 13, 14, 15, 16, 17, 18, 19, 20, 21, 22, 23, 24, 25, 26])], [], [[4], [6, 7, 8, 9], [], [], [11, 12, 13], [15, 16], [17, 18, 19, 20, 21, 22, 23, 24, 25], [], []], [[], [], [], [], [], [], [], [], []], [(10, ([10, 0, 1], [])), (14, ([14], [])), (26, ([26, 0, 1, 5], []))], [(10, ([10], [])), (14, ([14, 0, 1, 5], [])), (26, ([26], []))], []⟩
  | 68 => Tab.hints ⟨[[], [], [], [], [], [], [], [], [], [], [], [], [], []], [[], [], [], [], [], [], [], [], [], [], [], [], [], []], [[], [], [], [], [], [], [], [], [], [], [], [], [], []], [], [], [[0, 1, 4], [5, 6, 7, 8], [], [10, 11, 12, 13], [], [15, 16, 17, 18, 19], [], [21, 22, 23, 24], [], [26, 27, 28, 29, 30], [], [2, 3, 32, 33, 34, 35, 36], [], []], [[], [], [], [], [], [], [], [], [], [], [], [2, 3], [], []], [(9, ([9, 3, 2], [2, 3])), (14, ([14, 2, 3], [2, 3])), (20, ([20, 3, 2], [2, 3])), (25, ([25, 2, 3], [2, 3])), (31, ([31, 3, 2], [2, 3])), (37, ([37], []))], [(9, ([9], [])), (14, ([14], [])), (20, ([20], [])), (25, ([25], [])), (31, ([31], [])), (37, ([37], []))], []⟩
  | 69 => Tab.hints ⟨[[], [], [], [], [], []], [[], [], [], [], [], []], [[], [], [], [], [], []], [], [], [[0, 1, 4], [5, 6, 7, 8], [], [2, 3, 10, 11, 12, 13, 14], [], []], [[], [], [], [2, 3], [], []], [(9, ([9, 3, 2], [2, 3])), (15, ([15], []))], [(9, ([9], [])), (15, ([15], []))], []⟩
  | 70 => Tab.hints ⟨[[], [], [], [], [], [], [], [], [], [], [], [], [], [], [], [], [], [], [], [], []], [[], [], [], [], [], [], [], [], [], [], [], [], [], [], [], [], [], [], [], [], []], [[], [], [], [], [], [], [], [], [], [], [], [], [], [], [], [], [], [], [], [], []], [(0, [2, 3, 4, 6, 7, 8, 9, 10, 11, 12, 13, 14, 15, 16, 17, 18, 19, 20, 21, 22, 23, 24, 25, 26, 27, 28, 29, 30, 31, 32, 33, 34, 35, 36, 37, 38, 39, 40, 41, 42, 43, 44, 45, 46, 47, 48, 49, 50, 51, 52, 53, 54, 55, 56, 57, 58, 59, 60, 61, 62, 63, 64, 65, 66, 67, 68, 69, 70, 71, 72, 73, 74, 75, 76, 77, 78, 79, 80, 81, 82, 83, 84, 85, 86, 87, 88, 89, 90, 91, 92, 93, 94, 95])], [], [[4], [], [6, 7, 8], [10, 11], [12, 13, 14, 15, 16], [17, 18], [19, 20, 21, 22, 23, 24, 25], [26, 27], [28, 29, 30, 31, 32, 33], [34, 35], [36, 37, 38, 39, 40, 41], [42, 43], [44, 45, 46, 47, 48, 49, 50], [51, 52, 53, 54, 55, 56, 57], [58, 59, 60, 61, 62, 63, 64], [65, 66, 67, 68, 69, 70, 71], [72, 73, 74, 75, 76, 77, 78], [79, 80, 81, 82, 83, 84, 85], [86, 87], [88, 89, 90, 91, 92, 93, 94], [1, 95]], [[], [], [], [], [], [], [], [], [], [], [], [], [], [], [], [], [], [], [], [], []], [(9, ([9], []))], [(9, ([9, 5, 0], []))], []⟩
  | 71 => Tab.hints ⟨[[], [], [], [], [], [], [], [], []], [[], [], [], [], [], [], [], [], []], [[], [], [], [], [], [], [], [], []], [(0, [2, 3, 4, 6, 7, 8, 9, 10, 11, 12, 13, 14, 15, 16, 17, 18, 19, 20, 21, 22, 23, 24, 25, 26, 27])], [], [[4], [], [6, 7, 8], [10, 11], [12, 13, 14, 15, 16], [17, 18], [19, 20, 21, 22, 23, 24], [25, 26], [1, 27]], [[], [], [], [], [], [], [], [], []], [(9, ([9], []))], [(9, ([9, 5, 0], []))], []⟩
  | 72 => Tab.hints ⟨[[], [], [], [], [], [], [], []], [[], [], [], [], [], [], [], []], [[], [], [], [], [], [], [], []], [(0, [1, 2, 4, 5, 6, 7, 8, 9, 10, 11, 12, 13, 14, 15, 16, 17, 18, 19])], [], [[2], [4], [], [], [6], [8, 9, 10, 11, 12, 13, 14, 15], [16, 17], [3, 18, 19]], [[], [], [], [], [], [], [], []], [(5, ([5, 0], [])), (7, ([7], []))], [(5, ([5], [])), (7, ([7, 0], []))], []⟩
  | 73 => Tab.hints ⟨[[], [], [], [], [], [], [], [], [], [], []], [[], [], [], [], [], [], [], [], [], [], []], [[], [], [], [], [], [], [], [], [], [], []], [(0, [2, 3, 4, 6, 7, 8, 9, 10, 11, 12, 13, 14, 15, 16, 17, 18, 19, 20, 21, 22, 23, 24, 25, 26, 27, 28, 29, 30, 31, 32, 33, 34, 35, 36, 37, 38, 39, 40, 41])], [], [[4], [], [6, 7, 8], [10, 11], [12, 13, 14, 15, 16], [17, 18], [19, 20, 21, 22, 23, 24], [25, 26], [27, 28, 29, 30, 31, 32, 33], [34, 35, 36, 37, 38, 39, 40], [1, 41]], [[], [], [], [], [], [], [], [], [], [], []], [(9, ([9], []))], [(9, ([9, 5, 0], []))], []⟩
  | 74 => Tab.hints ⟨[[], [], [], [], [], [], []], [[], [], [], [], [], [], []], [[], [], [], [], [], [], []], [(0, [2, 3, 4, 6, 7, 8, 9, 10, 11, 12, 13, 14, 15, 16, 17, 18, 19])], [], [[4], [], [6, 7, 8], [10, 11], [12, 13, 14, 15, 16], [17, 18], [1, 19]], [[], [], [], [], [], [], []], [(9, ([9], []))], [(9, ([9, 5, 0], []))], []⟩
  | 78 => Tab.hints ⟨[[], [], [], [], [], [], [], []], [[], [], [], [], [], [], [], []], [[], [], [], [], [], [], [], []], [], [], [[0, 4], [5, 6, 7, 8, 9], [10], [], [2, 12, 13, 14, 15], [16], [], [1, 18]], [[], [], [], [], [2], [], [], []], [(11, ([11, 1, 2], [2])), (17, ([17, 1], []))], [(11, ([11], [])), (17, ([17], []))], []⟩
  | 79 => Tab.hints ⟨[[], [], [], [], [], [], [0, 1], [], [], [], [], [0], [0]], [[], [], [], [], [], [], [], [], [], [], [], [], []], [[], [], [], [], [], [], [], [], [], [], [], [], []], [(0, [0, 3, 5, 7, 8, 9, 10, 11, 12, 13, 14, 15, 16, 17, 18, 19, 20, 21, 22, 23, 24, 25, 26, 27, 28, 29, 30, 31, 32, 33, 34, 35, 36, 37, 38, 39, 40, 41, 42, 43, 44, 45, 46, 47, 48, 49, 50, 51, 52, 53]), (2, [0, 2, 3, 5, 6, 9, 10, 11, 12, 13, 14, 15, 16, 17, 18, 19, 20, 21, 22, 23, 24, 25, 26, 27, 28, 29, 30, 31, 32, 33, 34, 35, 36, 37, 38, 39, 40, 41, 42, 43, 44, 45, 46, 47, 48, 49, 50, 51, 52, 53])], [], [[0, 5], [], [9, 10, 11, 12, 13, 14, 15, 16, 17, 18], [20, 21], [22, 23, 24, 25, 26, 27, 28], [2, 6, 30, 31, 32, 33, 34], [35], [], [36, 37, 38], [40, 41], [42, 43, 44, 45, 46, 47], [7, 8, 49, 50, 51, 52], [53]], [[], [], [], [], [], [2], [], [], [], [], [], [], []], [(19, ([19], [])), (29, ([29, 1], [])), (39, ([39], [])), (48, ([48, 1], []))], [(19, ([19, 2, 6], [2])), (29, ([29], [])), (39, ([39, 1, 7, 8], [])), (48, ([48], []))], []⟩
  | 80 => Tab.hints ⟨[[], [], [], [], []], [[], [], [], [], []], [[], [], [], [], []], [], [], [[0], [], [4, 5, 6], [1, 7, 8, 9, 10], [3, 11]], [[], [], [], [1], [3]], [], [], []⟩
  | 81 => Tab.hints ⟨[[], [], [], [], [0, 1], [], [], [0], [0]], [[], [], [], [], [], [], [], [], []], [[], [], [], [], [], [], [], [], []], [], [], [[0, 5], [9, 10, 11, 12], [13], [2, 6, 15, 16, 17, 18, 19], [20], [1, 21, 22, 23], [24], [7, 8, 26, 27, 28, 29], [30]], [[], [], [], [2], [], [], [], [], []], [(14, ([14, 1], [])), (25, ([25], []))], [(14, ([14, 2, 6], [2])), (25, ([25, 7, 8], []))], []⟩
  | 82 => Tab.hints ⟨[[], [0]], [[], []], [[], []], [], [], [[4], [0, 1, 5, 6, 7, 8]], [[], []], [], [], []⟩
  | 83 => Tab.hints ⟨[[], [0]], [[], [2]], [[], []], [], [], [[4], [0, 1, 5, 6, 7, 8]], [[], []], [], [], []⟩
  | 85 => Tab.hints ⟨[[4, 5]], [[]], [[]], [], [], [[0, 1, 4, 5, 6, 7, 8, 9, 10, 11, 12]], [[]], [], [], []⟩
  | 86 => Tab.hints ⟨[[], [], [], [], [], []], [[], [], [], [], [], []], [[], [], [], [], [], []], [], [], [[0, 1, 4], [5, 6, 7, 8], [], [2, 3, 10, 11, 12, 13, 14], [], []], [[], [], [], [2, 3], [], []], [(9, ([9, 3, 2], [2, 3])), (15, ([15], []))], [(9, ([9], [])), (15, ([15], []))], []⟩
  | 87 => Tab.hints ⟨[[], [], [], [], [], [], [], [], [], [], []], [[], [], [], [], [], [], [], [], [], [], []], [[], [], [], [], [], [], [], [], [], [], []], [(0, [2, 3, 4, 6, 7, 8, 9, 10, 11, 12, 13, 14, 15, 16, 17, 18, 19, 20, 21, 22, 23, 24, 25, 26, 27])], [], [[4], [6, 7, 8, 9], [10], [], [], [12, 13, 14], [16, 17], [18, 19, 20, 21, 22, 23, 24], [25], [], [1, 27]], [[], [], [], [], [], [], [], [], [], [], []], [(11, ([11, 1, 0], [])), (15, ([15], [])), (26, ([26, 1, 0, 5], []))], [(11, ([11], [])), (15, ([15, 0, 5], [])), (26, ([26], []))], []⟩
  | 88 => Tab.hints ⟨[[], [], [], [], [], [], [], [], [], [], []], [[], [], [], [], [], [], [], [], [], [], []], [[], [], [], [], [], [], [], [], [], [], []], [(0, [2, 3, 4, 6, 7, 8, 9, 10, 11, 12, 13, 14, 15, 16, 17, 18, 19, 20, 21, 22, 23, 24, 25, 26])], [], [[4], [6, 7, 8, 9], [10], [], [], [12, 13, 14], [16, 17], [18, 19, 20, 21, 22, 23], [24], [], [1, 26]], [[], [], [], [], [], [], [], [], [], [], []], [(11, ([11, 0, 1], [])), (15, ([15], [])), (25, ([25, 0, 1, 5], []))], [(11, ([11], [])), (15, ([15, 0, 5], [])), (25, ([25], []))], []⟩
  | 89 => Tab.hints ⟨[[], [], [], [], [], [], [], [], [], [], []], [[], [], [], [], [], [], [], [], [], [], []], [[], [], [], [], [], [], [], [], [], [], []], [(0, [2, 3, 4, 6, 7, 8, 9, 10, 11, 12, 13, 14, 15, 16, 17, 18, 19, 20, 21, 22, 23, 24, 25, 26])], [], [[4], [6, 7, 8, 9], [10], [], [], [12, 13, 14], [16, 17], [18, 19, 20, 21, 22, 23], [24], [], [1, 26]], [[], [], [], [], [], [], [], [], [], [], []], [(11, ([11, 0, 1], [])), (15, ([15], [])), (25, ([25, 0, 1, 5], []))], [(11, ([11], [])), (15, ([15, 0, 5], [])), (25, ([25], []))], []⟩
  | 92 => Tab.hints ⟨[[], []], [[], []], [[], []], [], [], [[2], [0, 3, 4, 5, 6, 7, 8, 9, 10, 11, 12, 13, 14, 15, 16, 17, 18, 19, 20]], [[], []], [], [], []⟩
  | 97 => Tab.hints ⟨[[0], [3], [], [], [], [], [0, 1]], [[], [], [], [], [], [], []], [[], [], [], [], [], [], []], [(0, [1, 2, 5, 6, 7, 8, 9, 10, 11, 12, 13, 14, 15, 16, 17, 18, 19, 20, 21])], [], [[2], [5, 6, 7], [], [8, 9, 10], [12, 13], [14, 15, 16, 17, 18, 19, 20], [3, 21]], [[], [7], [], [], [], [], []], [(11, ([11], []))], [(11, ([11, 4, 0], []))], []⟩
  | 98 => Tab.hints ⟨[[0], [3], [], [], [], [], [0, 1]], [[], [], [], [], [], [], []], [[], [], [], [], [], [], []], [(0, [1, 2, 5, 6, 7, 8, 9, 10, 11, 12, 13, 14, 15, 16, 17, 18, 19, 20, 21, 22])], [], [[2], [5, 6, 7], [], [8, 9, 10], [12, 13], [14, 15, 16, 17, 18, 19, 20, 21], [3, 22]], [[], [7], [], [], [], [], []], [(11, ([11], []))], [(11, ([11, 4, 0], []))], []⟩
  | 99 => Tab.hints ⟨[[0], [3], [], [], [], [], [0, 1]], [[], [], [], [], [], [], []], [[], [], [], [], [], [], []], [(0, [1, 2, 5, 6, 7, 8, 9, 10, 11, 12, 13, 14, 15, 16, 17, 18, 19, 20, 21, 22])], [], [[2], [5, 6, 7], [], [8, 9, 10], [12, 13], [14, 15, 16, 17, 18, 19, 20, 21], [3, 22]], [[], [7], [], [], [], [], []], [(11, ([11], []))], [(11, ([11, 4, 0], []))], []⟩
  | 101 => Tab.hints ⟨[[], [], [], [], [], [], [], [], []], [[], [], [], [], [], [], [], [], []], [[], [], [], [], [], [], [], [], []], [], [], [[2], [0], [5], [6], [7], [8], [9], [4], []], [[], [], [], [], [], [], [], [], []], [(4, ([], []))], [(4, ([4], []))], []⟩
  | 104 => Tab.hints ⟨[[], [0]], [[], [2]], [[], []], [], [], [[4], [0, 1, 5, 6, 7, 8]], [[], []], [], [], []⟩
  | 107 => Tab.hints ⟨[[], [], [], [], [], [], [], [], []], [[], [], [], [], [], [], [], [], []], [[], [], [], [], [], [], [], [], []], [(0, [2, 3, 4, 6, 7, 8, 9, 10, 11, 12, 13, 14, 15, 16, 17, 18, 19, 20, 21, 22, 23, 24, 25])], [], [[4], [6, 7, 8, 9], [], [], [11, 12, 13], [15, 16], [17, 18, 19, 20, 21, 22, 23, 24], [], []], [[], [], [], [], [], [], [], [], []], [(10, ([10, 0, 1], [])), (14, ([14], [])), (25, ([25, 0, 1, 5], []))], [(10, ([10], [])), (14, ([14, 0, 1, 5], [])), (25, ([25], []))], []⟩
  | 108 => Tab.hints ⟨[[], [], [], [], [], [], [], [], []], [[], [], [], [], [], [], [], [], []], [[], [], [], [], [], [], [], [], []], [(0, [2, 3, 4, 6, 7, 8, 9, 10, 11, 12, 13, 14, 15, 16, 17, 18, 19, 20, 21, 22, 23, 24, 25, 26])], [], [[4], [6, 7, 8, 9], [], [], [11, 12, 13], [15, 16], [17, 18, 19, 20, 21, 22, 23, 24, 25], [], []], [[], [], [], [], [], [], [], [], []], [(10, ([10, 0, 1], [])), (14, ([14], [])), (26, ([26, 0, 1, 5], []))], [(10, ([10], [])), (14, ([14, 0, 1, 5], [])), (26, ([26], []))], []⟩
  | 109 => Tab.hints ⟨[[], [], [], [], [], [], [], [], []], [[], [], [], [], [], [], [], [], []], [[], [], [], [], [], [], [], [], []], [(0, [2, 3, 4, 6, 7, 8, 9, 10, 11, 12, 13, 14, 15, 16, 17, 18, 19, 20, 21, 22, 23, 24, 25, 26])], [], [[4], [6, 7, 8, 9], [], [], [11, 12, 13], [15, 16], [17, 18, 19, 20, 21, 22, 23, 24, 25], [], []], [[], [], [], [], [], [], [], [], []], [(10, ([10, 0, 1], [])), (14, ([14], [])), (26, ([26, 0, 1, 5], []))], [(10, ([10], [])), (14, ([14, 0, 1, 5], [])), (26, ([26], []))], []⟩
  | 110 => Tab.hints ⟨[[], [], [], [], [], [], [], [], [], [], [], [], [], [], []], [[], [], [], [], [], [], [], [], [], [], [], [], [], [], []], [[], [], [], [], [], [], [], [], [], [], [], [], [], [], []], [(0, [2, 3, 4, 6, 7, 8, 9, 10, 11, 12, 13, 14, 15, 16, 17, 18, 19, 20, 21, 22, 23, 24, 25, 26, 27, 28, 29, 30, 31, 32, 33, 34, 35, 36, 37, 38, 39, 40, 41, 42, 43, 44, 45, 46, 47, 48, 49, 50, 51, 52, 53, 54, 55, 56, 57, 58, 59, 60])], [], [[4], [], [6, 7, 8], [10, 11], [12, 13, 14, 15, 16, 17], [18, 19], [20, 21, 22, 23, 24, 25], [26, 27], [28, 29, 30, 31, 32, 33, 34], [35, 36, 37, 38, 39, 40, 41], [42, 43], [44, 45, 46, 47, 48, 49, 50], [51, 52], [53, 54, 55, 56, 57, 58, 59], [1, 60]], [[], [], [], [], [], [], [], [], [], [], [], [], [], [], []], [(9, ([9], []))], [(9, ([9, 5, 0], []))], []⟩
  | 111 => Tab.hints ⟨[[], [], [], [], [], [], [], [], [], []], [[], [], [], [], [], [], [], [], [], []], [[], [], [], [], [], [], [], [], [], []], [(0, [2, 3, 4, 6, 7, 8, 9, 10, 11, 12, 13, 14, 15, 16, 17, 18, 19, 20, 21, 22, 23, 24, 25, 26, 27, 28, 29, 30, 31, 32, 33, 34, 35])], [], [[4], [], [6, 7, 8], [10, 11], [12, 13, 14, 15, 16, 17], [18, 19], [20, 21, 22, 23, 24, 25], [26, 27], [28, 29, 30, 31, 32, 33, 34], [1, 35]], [[], [], [], [], [], [], [], [], [], []], [(9, ([9], []))], [(9, ([9, 5, 0], []))], []⟩
  | 130 => Tab.hints ⟨[[], [], [], [], []], [[], [], [], [], []], [[], [], [], [], []], [], [], [[0, 4], [2, 5, 6, 7, 8, 9], [10], [], [1, 12]], [[], [2], [], [], []], [(11, ([11, 1], []))], [(11, ([11], []))], []⟩
  | 131 => Tab.hints ⟨[[], [], [], [], [], [], [], []], [[], [], [], [], [], [], [], []], [[], [], [], [], [], [], [], []], [], [], [[0, 4], [5, 6, 7, 8, 9], [10], [], [2, 12, 13, 14, 15, 16], [17], [], [1, 19]], [[], [], [], [], [2], [], [], []], [(11, ([11, 2, 1], [2])), (18, ([18, 1], []))], [(11, ([11], [])), (18, ([18], []))], []⟩
  | 132 => Tab.hints ⟨[[], [], [], [], [], [], [], [], [], [], []], [[], [], [], [], [], [], [], [], [], [], []], [[], [], [], [], [], [], [], [], [], [], []], [], [], [[0, 4], [5, 6, 7, 8, 9], [10], [], [12, 13, 14, 15], [16], [], [2, 18, 19, 20, 21], [22], [], [1, 24]], [[], [], [], [], [], [], [], [2], [], [], []], [(11, ([11, 2, 1], [2])), (17, ([17, 1, 2], [2])), (23, ([23, 1], []))], [(11, ([11], [])), (17, ([17], [])), (23, ([23], []))], []⟩
  | 133 => Tab.hints ⟨[[], []], [[], []], [[], []], [], [], [[0, 2], [1, 3, 4, 5, 6, 7, 8, 9, 10, 11, 12, 13, 14, 15, 16]], [[], [1]], [], [], []⟩
  | 134 => Tab.hints ⟨[[], [], [], []], [[], [], [], []], [[], [], [], []], [], [], [[0], [3], [5, 6, 7, 8, 9, 10, 11, 12], [1, 13]], [[], [], [], [1]], [(4, ([4], []))], [(4, ([4], []))], []⟩
  | 135 => Tab.hints ⟨[[], [], [], [], [], [2]], [[], [], [], [], [], []], [[], [], [], [], [], []], [], [], [[0], [3, 4], [5, 6, 7, 8, 9, 10, 11, 12, 13, 14, 15, 16, 17], [19, 20, 21, 22, 23, 24, 25, 26], [1, 27], [1, 28, 29, 30]], [[], [], [], [], [1], [1]], [(18, ([18], []))], [(18, ([18], []))], []⟩
  | 136 => Tab.hints ⟨[[], [], [], [], [], [], []], [[], [], [], [], [], [], []], [[], [], [], [], [], [], []], [(0, [0, 3, 4, 6, 7, 8, 9, 10, 11, 12, 13, 14, 15, 16, 17, 18, 19, 20, 21, 22, 23, 24, 25, 26, 27])], [], [[0, 4], [], [6, 7, 8, 9, 10, 11, 12, 13, 14, 15], [17, 18], [19, 20, 21, 22, 23, 24, 25], [5, 27], []], [[], [], [], [], [], [], []], [(16, ([16], [])), (26, ([26, 2, 1], [2]))], [(16, ([16, 2, 1, 5], [2])), (26, ([26], []))], []⟩
  | 137 => Tab.hints ⟨[[], [], [], [], [], [], [], [], [], [], []], [[], [], [], [], [], [], [], [], [], [], []], [[], [], [], [], [], [], [], [], [], [], []], [], [], [[1, 4], [0], [7], [3, 8, 9, 10, 11, 12, 13, 14, 15], [17], [3, 18, 19, 20, 21, 22, 23, 24, 25], [27], [3, 28, 29, 30], [5, 32], [3, 33, 34, 35, 36, 37, 38, 39, 40, 41, 42, 43, 44, 45], [3, 46, 47, 48, 49, 50, 51, 52, 53]], [[], [], [], [3], [], [3], [], [3], [], [3], [3]], [(6, ([6, 5], [])), (16, ([16, 5], [])), (26, ([26, 5], [])), (31, ([31], []))], [(6, ([6], [])), (16, ([16], [])), (26, ([26], [])), (31, ([31], []))], []⟩
  | 138 => Tab.hints ⟨[[], [], [], [], [], [], [], [], [], [0, 1, 2], [], [], [], [], [], []], [[], [], [], [], [], [], [], [], [], [], [], [], [], [], [], []], [[], [], [], [], [], [], [], [], [], [], [], [], [], [], [], []], [(0, [0, 2, 4, 6, 8, 9, 10, 11, 12, 13, 14, 15, 16, 17, 18, 19, 20, 21, 22, 23, 24, 25, 26, 27, 28, 29, 30, 31, 32, 33, 34, 35, 36, 37, 38, 39, 40, 41, 42, 43, 44, 45, 46, 47, 48, 49, 50, 51, 52, 53, 54, 55, 56, 57, 58, 59, 60, 61, 62, 63, 64, 65, 66, 67, 68, 69, 70, 71, 72, 73, 74, 75, 76, 77, 78, 79, 80, 81, 82, 83, 84, 85, 86, 87]), (2, [0, 1, 2, 3, 4, 6, 7, 8, 11, 12, 13, 14, 15, 16, 17, 18, 19, 20, 21, 22, 23, 24, 25, 26, 27, 28, 29, 30, 31, 32, 33, 34, 35, 36, 37, 38, 39, 40, 41, 42, 43, 44, 45, 46, 47, 48, 49, 50, 51, 52, 53, 54, 55, 56, 57, 58, 59, 60, 61, 62, 63, 64, 65, 66, 67, 68, 69, 70, 71, 72, 73, 74, 75, 76, 77, 78, 79, 80, 81, 82, 83, 84, 85, 86, 87])], [], [[0, 2, 6], [11, 12, 13, 14, 15, 16, 17, 18, 19, 20, 21, 22, 23, 24, 25, 26, 27], [], [], [29, 30, 31, 32], [34, 35], [36, 37, 38, 39, 40, 41, 42], [8, 43, 44, 45, 46, 47, 48, 49, 50, 51, 52, 53, 54, 55, 56, 57, 58, 59, 60, 61, 62, 63, 64, 65, 66, 67, 68, 69, 70], [], [1, 72, 73], [], [74, 75, 76], [78, 79], [80, 81, 82, 83, 84, 85, 86], [], []], [[], [], [], [], [], [], [], [], [], [], [], [], [], [], [], []], [(28, ([28, 3, 5, 1], [3, 5])), (33, ([33], [])), (71, ([71, 3, 5, 1, 7], [3, 5])), (77, ([77], [])), (87, ([87, 5, 9, 10], [5]))], [(28, ([28], [])), (33, ([33, 3, 7], [3])), (71, ([71], [])), (77, ([77, 5, 9, 10], [5])), (87, ([87], []))], []⟩
  | 139 => Tab.hints ⟨[[], [], [], [], []], [[], [], [], [], []], [[], [], [], [], []], [], [], [[0], [], [4, 5, 6], [1, 7, 8, 9], [3, 10]], [[], [], [], [1], [3]], [], [], []⟩
  | 140 => Tab.hints ⟨[[], [], [], [], []], [[], [], [], [], []], [[], [], [], [], []], [], [], [[0], [], [4, 5, 6], [1, 7, 8, 9], [3, 10]], [[], [], [], [1], [3]], [], [], []⟩
  | 141 => Tab.hints ⟨[[], [], [], [], [], [], []], [[], [], [], [], [], [], []], [[], [], [], [], [], [], []], [], [], [[0], [], [4, 5, 6], [7, 8, 9], [10, 11, 12, 13], [1, 14, 15, 16, 17], [3, 18]], [[], [], [], [], [], [1], [3]], [], [], []⟩
  | 142 => Tab.hints ⟨[[], [0]], [[], [2]], [[], []], [], [], [[4], [0, 1, 5, 6, 7, 8]], [[], []], [], [], []⟩
  | 144 => Tab.hints ⟨[[], [], [], [], [], [], [], []], [[], [], [], [], [5], [], [], []], [[], [], [], [], [], [], [], []], [(0, [2, 3, 4, 5, 6, 9, 10, 11, 12, 13, 14, 15, 16, 17, 18])], [], [[4], [6], [], [10], [11, 12, 13, 14, 15], [5, 17], [18], []], [[], [], [], [], [], [], [], []], [(9, ([9], [])), (16, ([16, 7, 1, 0, 8], []))], [(9, ([9, 7, 1, 0, 8], [])), (16, ([16, 5], []))], []⟩
  | 146 => Tab.hints ⟨[[], []], [[], []], [[], []], [], [], [[0, 2], [1, 3, 4, 5, 6, 7, 8, 9, 10]], [[], [1]], [], [], []⟩
  | 147 => Tab.hints ⟨[[], []], [[], []], [[], []], [], [], [[0, 2], [1, 3, 4, 5]], [[], [1]], [], [], []⟩
  | 148 => Tab.hints ⟨[[], [5]], [[], []], [[], []], [], [], [[0], [1, 3, 4, 5, 6, 7, 8]], [[], [1]], [], [], []⟩
  | 149 => Tab.hints ⟨[[], []], [[], []], [[], []], [], [], [[4], [0, 1, 5, 6, 7]], [[], []], [], [], []⟩
  | 150 => Tab.hints ⟨[[], [], [], [2], [3]], [[], [], [], [], []], [[], [], [], [], []], [], [], [[0], [5, 6, 7, 8, 9, 10, 11], [4, 12], [1, 14, 15, 16], [1, 3, 17, 18, 19, 20]], [[], [], [], [1], [1]], [(13, ([13, 3], []))], [(13, ([13], []))], []⟩
  | 151 => Tab.hints ⟨[[], [0]], [[], [2]], [[], []], [], [], [[4], [0, 1, 5, 6, 7, 8]], [[], []], [], [], []⟩
  | 153 => Tab.hints ⟨[[], [], [], [], [], [], [], [], [], [], [], []], [[], [], [], [], [], [], [], [], [7], [], [], []], [[], [], [], [], [], [], [], [], [], [], [], []], [], [], [[0, 1, 6], [9, 10, 11, 12, 13, 14], [8, 15], [2, 4, 17, 18, 19, 20, 21, 22, 23], [24], [27], [], [29], [4, 7, 30, 31, 32, 33, 34, 35, 36, 37, 38], [25, 40], [3, 4, 7, 41, 42, 43, 44], []], [[], [], [], [4], [], [], [], [], [4, 7], [], [3, 4, 7], []], [(16, ([16, 3, 7], [3, 7])), (26, ([26, 4, 7, 25, 3], [3, 4, 7])), (28, ([28, 3, 25], [3])), (39, ([39], []))], [(16, ([16, 2], [])), (26, ([26], [])), (28, ([28], [])), (39, ([39, 3, 4, 7], [3, 4, 7]))], []⟩
  | 154 => Tab.hints ⟨[[], [], [], [], [], []], [[], [], [], [], [], []], [[], [], [], [], [], []], [], [], [[0, 1, 4], [5, 6, 7, 8], [], [2, 3, 10, 11, 12, 13], [], []], [[], [], [], [2, 3], [], []], [(9, ([9, 3, 2], [2, 3])), (14, ([14], []))], [(9, ([9], [])), (14, ([14], []))], []⟩
  | 155 => Tab.hints ⟨[[], [], [], [], [], []], [[], [], [], [], [], []], [[], [], [], [], [], []], [], [], [[0, 1, 4], [5, 6, 7, 8], [], [2, 3, 10, 11, 12, 13], [], []], [[], [], [], [2, 3], [], []], [(9, ([9, 3, 2], [2, 3])), (14, ([14], []))], [(9, ([9], [])), (14, ([14], []))], []⟩
  | 156 => Tab.hints ⟨[[], [], [], [], [], [], [], [], [], []], [[], [], [], [], [], [], [], [], [], []], [[], [], [], [], [], [], [], [], [], []], [], [], [[0, 1, 4], [5, 6, 7, 8], [], [10, 11, 12, 13], [], [15, 16, 17, 18, 19], [], [2, 3, 21, 22, 23, 24, 25], [], []], [[], [], [], [], [], [], [], [2, 3], [], []], [(9, ([9, 3, 2], [2, 3])), (14, ([14, 2, 3], [2, 3])), (20, ([20, 3, 2], [2, 3])), (26, ([26], []))], [(9, ([9], [])), (14, ([14], [])), (20, ([20], [])), (26, ([26], []))], []⟩
  | 159 => Tab.hints ⟨[[0], [5], [4]], [[], [], []], [[], [], []], [], [], [[0], [2, 3, 4, 5, 6, 7], [1, 8, 9, 10, 11]], [[], [], [1]], [], [], []⟩
  | 160 => Tab.hints ⟨[[], [], [], [0]], [[], [], [], [2]], [[], [], [], []], [], [], [[1, 4], [5, 6], [], [0, 3, 8, 9, 10]], [[], [], [], [3]], [(7, ([7, 3, 0], [3]))], [(7, ([7], []))], []⟩
  | 161 => Tab.hints ⟨[[0], [2], [5], [], [], [], [1], [0, 8], [], [0, 1]], [[], [], [], [], [], [], [], [], [], []], [[], [], [], [], [], [], [], [], [], []], [(0, [0, 1, 3, 4, 5, 6, 7, 8, 9, 10, 11, 12, 13, 17, 18, 19, 20, 21, 22, 23, 24, 25, 26, 27, 28, 29, 30, 31])], [(0, [5])], [[0], [6, 7, 8], [1, 9, 10, 11, 12, 13], [], [], [18, 19], [20, 21], [4, 5, 22, 23, 24, 25, 26, 27, 28, 29], [30], [2, 31]], [[], [], [1], [], [], [], [], [5], [], []], [(17, ([17], []))], [(17, ([17, 16, 14, 15], []))], []⟩
  | 162 => Tab.hints ⟨[[], [], [], [], [], [], [], []], [[], [], [], [], [], [], [], []], [[], [], [], [], [], [], [], []], [(0, [2, 3, 4, 5, 6, 9, 10, 11, 12, 13, 14, 15, 16, 17, 18])], [], [[4], [6], [], [10], [11, 12, 13, 14, 15], [5, 17], [18], []], [[], [], [], [], [], [], [], []], [(9, ([9], [])), (16, ([16, 7, 1, 0, 8], []))], [(9, ([9, 7, 1, 0, 8], [])), (16, ([16, 5], []))], []⟩
  | 163 => Tab.hints ⟨[[], [], [], [], [], [], [], []], [[], [], [], [], [5], [], [], []], [[], [], [], [], [], [], [], []], [(0, [2, 3, 4, 5, 6, 9, 10, 11, 12, 13, 14, 15, 16, 17, 18])], [], [[4], [6], [], [10], [11, 12, 13, 14, 15], [5, 17], [18], []], [[], [], [], [], [], [], [], []], [(9, ([9], [])), (16, ([16, 7, 1, 0, 8], []))], [(9, ([9, 7, 1, 0, 8], [])), (16, ([16, 5], []))], []⟩
  | 164 => Tab.hints ⟨[[], [], [], [], [], [], [], [], [], [], [], [], [], [], [], [], []], [[], [], [], [], [], [], [], [], [], [], [], [], [], [], [], [], []], [[], [], [], [], [], [], [], [], [], [], [], [], [], [], [], [], []], [], [], [[0, 4], [5, 6, 7, 8, 9], [10], [], [12, 13, 14, 15, 16], [17], [], [19, 20, 21, 22], [23], [], [25, 26, 27, 28], [29], [], [2, 31, 32, 33, 34], [35], [], [1, 37]], [[], [], [], [], [], [], [], [], [], [], [], [], [], [2], [], [], []], [(11, ([11, 2, 1], [2])), (18, ([18, 2, 1], [2])), (24, ([24, 2, 1], [2])), (30, ([30, 1, 2], [2])), (36, ([36, 1], []))], [(11, ([11], [])), (18, ([18], [])), (24, ([24], [])), (30, ([30], [])), (36, ([36], []))], []⟩
  | 165 => Tab.hints ⟨[[], [], [], [], [], [], [], [], [], [], []], [[], [], [], [], [], [], [], [], [], [], []], [[], [], [], [], [], [], [], [], [], [], []], [], [], [[0, 4], [5, 6, 7, 8, 9], [10], [], [12, 13, 14, 15, 16], [17], [], [2, 19, 20, 21, 22], [23], [], [1, 25]], [[], [], [], [], [], [], [], [2], [], [], []], [(11, ([11, 2, 1], [2])), (18, ([18, 1, 2], [2])), (24, ([24, 1], []))], [(11, ([11], [])), (18, ([18], [])), (24, ([24], []))], []⟩
  | 169 => Tab.hints ⟨[[], [], [], [], [], [], [], []], [[], [], [], [], [], [], [], []], [[], [], [], [], [], [], [], []], [], [], [[0], [], [4, 5, 6], [7, 8, 9], [10, 11, 12, 13], [14, 15, 16, 17], [1, 18, 19, 20, 21], [3, 22]], [[], [], [], [], [], [], [1], [3]], [], [], []⟩
  | 170 => Tab.hints ⟨[[], [], [], [], [], []], [[], [], [], [], [], []], [[], [], [], [], [], []], [], [], [[0], [], [4, 5, 6], [7, 8, 9], [1, 10, 11, 12, 13], [3, 14]], [[], [], [], [], [1], [3]], [], [], []⟩
  | 176 => Tab.hints ⟨[[], [], [], [0], []], [[], [], [], [], []], [[], [], [], [], []], [], [], [[0, 5], [1, 7, 8, 9], [10], [12], [2, 6, 13, 14, 15, 16, 17]], [[], [], [], [], [2]], [(11, ([11, 6, 2], [2]))], [(11, ([11], []))], []⟩
  | 177 => Tab.hints ⟨[[], [], [], [], [], [], [], []], [[], [], [], [], [5], [], [], []], [[], [], [], [], [], [], [], []], [(0, [2, 3, 4, 5, 6, 9, 10, 11, 12, 13, 14, 15, 16, 17, 18])], [], [[4], [6], [], [10], [11, 12, 13, 14, 15], [5, 17], [18], []], [[], [], [], [], [], [], [], []], [(9, ([9], [])), (16, ([16, 7, 1, 0, 8], []))], [(9, ([9, 7, 1, 0, 8], [])), (16, ([16, 5], []))], []⟩
  | 178 => Tab.hints ⟨[[], [], [], [], [], [], [], [], [], [], [], []], [[], [], [], [], [], [], [], [], [], [], [], []], [[], [], [], [], [], [], [], [], [], [], [], []], [], [], [[0, 1, 4], [5, 6, 7, 8], [], [10, 11, 12, 13], [], [15, 16, 17, 18, 19], [], [21, 22, 23, 24, 25], [], [2, 3, 27, 28, 29, 30, 31], [], []], [[], [], [], [], [], [], [], [], [], [2, 3], [], []], [(9, ([9, 2, 3], [2, 3])), (14, ([14, 3, 2], [2, 3])), (20, ([20, 2, 3], [2, 3])), (26, ([26, 3, 2], [2, 3])), (32, ([32], []))], [(9, ([9], [])), (14, ([14], [])), (20, ([20], [])), (26, ([26], [])), (32, ([32], []))], []⟩
  | 179 => Tab.hints ⟨[[], [], [], [], [], [], [], []], [[], [], [], [], [], [], [], []], [[], [], [], [], [], [], [], []], [], [], [[0, 1, 4], [5, 6, 7, 8], [], [10, 11, 12, 13], [], [2, 3, 15, 16, 17, 18, 19], [], []], [[], [], [], [], [], [2, 3], [], []], [(9, ([9, 2, 3], [2, 3])), (14, ([14, 3, 2], [2, 3])), (20, ([20], []))], [(9, ([9], [])), (14, ([14], [])), (20, ([20], []))], []⟩
  | 190 => Tab.hints ⟨[[], [], [], [], [], [], [], [], [], [], []], [[], [], [], [], [], [], [], [], [], [], []], [[], [], [], [], [], [], [], [], [], [], []], [(0, [2, 3, 4, 6, 7, 8, 9, 10, 11, 12, 13, 14, 15, 16, 17, 18, 19, 20, 21, 22, 23, 24, 25, 26])], [], [[4], [6, 7, 8, 9], [10], [], [], [12, 13, 14], [16, 17], [18, 19, 20, 21, 22, 23], [24], [], [1, 26]], [[], [], [], [], [], [], [], [], [], [], []], [(11, ([11, 0, 1], [])), (15, ([15], [])), (25, ([25, 0, 1, 5], []))], [(11, ([11], [])), (15, ([15, 0, 5], [])), (25, ([25], []))], []⟩
  | 191 => Tab.hints ⟨[[], [], [], [], [], [], [], [], [], [], [], []], [[], [], [], [], [], [], [], [], [], [], [], []], [[], [], [], [], [], [], [], [], [], [], [], []], [(0, [1, 2, 5, 6, 7, 8, 9, 10, 11, 12, 13, 14, 15, 16, 17, 18, 19, 20, 21, 22, 23, 24, 25, 26, 27, 28, 29, 30, 31, 32, 33, 34, 35, 36, 37])], [], [[2], [5, 6, 7, 8, 9, 10, 11], [], [], [], [13, 14, 15], [17, 18], [19, 20, 21], [23, 24, 25, 26, 27, 28, 29, 30], [0, 31, 32], [3, 34, 35], [3, 36, 37]], [[], [], [], [], [], [], [], [], [], [], [], []], [(12, ([12, 0], [])), (16, ([16], [])), (22, ([22], [])), (33, ([33], []))], [(12, ([12], [])), (16, ([16, 4], [])), (22, ([22], [])), (33, ([33], []))], []⟩
  | 192 => Tab.hints ⟨[[0], [3], [], [], [], [], [0, 1]], [[], [], [], [], [], [], []], [[], [], [], [], [], [], []], [(0, [1, 2, 5, 6, 7, 8, 9, 10, 11, 12, 13, 14, 15, 16, 17, 18, 19, 20, 21, 22])], [], [[2], [5, 6, 7], [], [8, 9, 10], [12, 13], [14, 15, 16, 17, 18, 19, 20, 21], [3, 22]], [[], [7], [], [], [], [], []], [(11, ([11], []))], [(11, ([11, 4, 0], []))], []⟩
  | 193 => Tab.hints ⟨[[], [], [], [], [], [], [], []], [[], [], [], [], [5], [], [], []], [[], [], [], [], [], [], [], []], [(0, [2, 3, 4, 5, 6, 9, 10, 11, 12, 13, 14, 15, 16, 17, 18])], [], [[4], [6], [], [10], [11, 12, 13, 14, 15], [5, 17], [18], []], [[], [], [], [], [], [], [], []], [(9, ([9], [])), (16, ([16, 7, 1, 0, 8], []))], [(9, ([9, 7, 1, 0, 8], [])), (16, ([16, 5], []))], []⟩
  | 194 => Tab.hints ⟨[[], []], [[], []], [[], []], [], [], [[4], [0, 1, 5, 6, 7]], [[], []], [], [], []⟩
  | 195 => Tab.hints ⟨[[], []], [[], []], [[], []], [], [], [[4], [0, 1, 5, 6, 7, 8, 9, 10, 11, 12, 13, 14, 15, 16, 17, 18, 19, 20]], [[], []], [], [], []⟩
  | 196 => Tab.hints ⟨[[], []], [[], []], [[], []], [], [], [[4, 5], [0, 1, 6, 7, 8, 9, 10]], [[], []], [], [], []⟩
  | 197 => Tab.hints ⟨[[], [], [], [], [], [], [], []], [[], [], [], [], [5], [], [], []], [[], [], [], [], [], [], [], []], [(0, [2, 3, 4, 5, 6, 9, 10, 11, 12, 13, 14, 15, 16, 17, 18])], [], [[4], [6], [], [10], [11, 12, 13, 14, 15], [5, 17], [18], []], [[], [], [], [], [], [], [], []], [(9, ([9], [])), (16, ([16, 7, 1, 0, 8], []))], [(9, ([9, 7, 1, 0, 8], [])), (16, ([16, 5], []))], []⟩
  | 198 => Tab.hints ⟨[[], [], [], [], [], [], [], [], [], [], []], [[], [], [], [], [], [], [], [], [], [], []], [[], [], [], [], [], [], [], [], [], [], []], [], [], [[0, 4], [1], [7], [2, 8, 9, 10, 11, 12, 13, 14, 15], [17], [2, 18, 19, 20, 21, 22, 23, 24, 25], [27], [2, 28, 29, 30], [5, 32], [2, 33, 34, 35, 36, 37, 38, 39, 40, 41, 42, 43, 44, 45], [2, 46, 47, 48, 49, 50, 51, 52, 53]], [[], [], [], [2], [], [2], [], [2], [], [2], [2]], [(6, ([6, 5], [])), (16, ([16, 5], [])), (26, ([26, 5], [])), (31, ([31], []))], [(6, ([6], [])), (16, ([16], [])), (26, ([26], [])), (31, ([31], []))], []⟩
  | 200 => Tab.hints ⟨[[], [], [], [], [], [], [], [], [], [], [2]], [[], [], [], [], [], [], [], [], [], [], [4]], [[], [], [], [], [], [], [], [], [], [], []], [(0, [0, 1, 2, 6, 7, 8, 9, 10, 11, 12, 13, 14, 15, 16, 17, 18, 19, 20, 21, 22, 23, 24, 25, 26, 27, 28, 32, 33, 34, 35, 36, 37, 38, 39, 40, 41, 42, 43, 44, 45, 46, 47, 48, 49, 50, 51, 52, 53, 54, 55, 56, 57, 58, 59, 60, 61, 62, 63, 64, 65, 66, 67, 68, 69, 70, 71, 72])], [], [[0, 1, 2, 6], [10, 11, 12, 13, 14, 15, 16, 17, 18, 19, 20, 21, 22, 23, 24, 25, 26], [], [28], [], [33, 34, 35], [36, 37, 38, 39], [7, 8, 9, 40, 41, 42, 43, 44, 45, 46, 47, 48, 49, 50, 51, 52, 53, 54, 55, 56, 57, 58, 59, 60, 61, 62, 63, 64], [], [66], [4, 5, 67, 68, 69, 70, 71, 72]], [[], [], [], [], [], [], [], [], [], [], [4, 5]], [(27, ([27, 3, 4, 5], [3, 4, 5])), (32, ([32], [])), (65, ([65, 30, 29, 3, 4, 5, 31], [3, 4, 5]))], [(27, ([27], [])), (32, ([32, 30, 29, 3, 31], [3])), (65, ([65], []))], []⟩
  | 201 => Tab.hints ⟨[[], [], [], [], [], [], [], [], []], [[], [], [], [], [], [], [], [], []], [[], [], [], [], [], [], [], [], []], [(0, [2, 3, 4, 6, 7, 8, 9, 10, 11, 12, 13, 14, 15, 16, 17, 18, 19, 20, 21, 22, 23, 24, 25, 26])], [], [[4], [6, 7, 8, 9], [], [], [11, 12, 13], [15, 16], [17, 18, 19, 20, 21, 22, 23, 24, 25], [], []], [[], [], [], [], [], [], [], [], []], [(10, ([10, 0, 1], [])), (14, ([14], [])), (26, ([26, 0, 1, 5], []))], [(10, ([10], [])), (14, ([14, 0, 1, 5], [])), (26, ([26], []))], []⟩
  | 202 => Tab.hints ⟨[[], []], [[], []], [[], []], [], [], [[4], [0, 1, 5, 6, 7, 8, 9, 10, 11, 12, 13, 14, 15, 16, 17]], [[], []], [], [], []⟩
  | 203 => Tab.hints ⟨[[], [5]], [[], []], [[], []], [], [], [[], [0, 3, 4, 5, 6, 7, 8]], [[], []], [], [], []⟩
  | 204 => Tab.hints ⟨[[], [], [], [], [], [], [], []], [[], [], [], [], [5], [], [], []], [[], [], [], [], [], [], [], []], [(0, [2, 3, 4, 5, 6, 9, 10, 11, 12, 13, 14, 15, 16, 17, 18])], [], [[4], [6], [], [10], [11, 12, 13, 14, 15], [5, 17], [18], []], [[], [], [], [], [], [], [], []], [(9, ([9], [])), (16, ([16, 7, 1, 0, 8], []))], [(9, ([9, 7, 1, 0, 8], [])), (16, ([16, 5], []))], []⟩
  | 210 => Tab.hints ⟨[[], []], [[], []], [[], []], [], [], [[0, 4], [1, 2, 5, 6, 7, 8]], [[], [2]], [], [], []⟩
  | 216 => Tab.hints ⟨[[], []], [[], []], [[], []], [], [], [[2], [0, 3, 4, 5, 6, 7, 8, 9, 10, 11, 12, 13, 14, 15, 16, 17]], [[], []], [], [], []⟩
  | 217 => Tab.hints ⟨[[], [], [], []], [[], [], [], []], [[], [], [], []], [], [], [[4], [5, 6], [0, 1, 8, 9, 10, 11, 12, 13, 14], [0, 15]], [[], [], [], []], [(7, ([7], []))], [(7, ([7, 1], []))], []⟩
  | 218 => Tab.hints ⟨[[], [], [], []], [[], [], [], []], [[], [], [], []], [], [], [[4, 5], [6, 7, 8], [0, 10], [0, 1, 11, 12, 13, 14, 15, 16, 17]], [[], [], [], []], [(9, ([9, 1], []))], [(9, ([9], []))], []⟩
  | 220 => Tab.hints ⟨[[], [0]], [[], [2]], [[], []], [], [], [[4], [0, 1, 5, 6, 7, 8]], [[], []], [], [], []⟩
  | 225 => Tab.hints ⟨[[], [], [], [], [], [], [], []], [[], [], [], [], [], [], [], []], [[], [], [], [], [], [], [], []], [], [], [[2], [], [5, 6, 7, 8, 9, 10, 11], [], [13, 14, 15], [0, 3, 16, 17, 18, 19, 20, 21, 22, 23, 24, 25, 26, 27, 28, 29], [], [4, 31]], [[], [], [], [], [], [], [], []], [(12, ([12, 3], [])), (30, ([30, 4], []))], [(12, ([12], [])), (30, ([30], []))], []⟩
  | 227 => Tab.hints ⟨[[], [], []], [[], [], []], [[], [], []], [], [], [[2], [4, 5], [0, 3, 6, 7, 8, 9, 10, 11, 12, 13, 14, 15, 16, 17, 18, 19, 20, 21]], [[], [], []], [], [], []⟩
  | 228 => Tab.hints ⟨[[], [], [], [], [], [], [], []], [[], [], [], [], [5], [], [], []], [[], [], [], [], [], [], [], []], [(0, [2, 3, 4, 5, 6, 9, 10, 11, 12, 13, 14, 15, 16, 17, 18])], [], [[4], [6], [], [10], [11, 12, 13, 14, 15], [5, 17], [18], []], [[], [], [], [], [], [], [], []], [(9, ([9], [])), (16, ([16, 7, 1, 0, 8], []))], [(9, ([9, 7, 1, 0, 8], [])), (16, ([16, 5], []))], []⟩
  | 232 => Tab.hints ⟨[[], [], [], []], [[], [], [], []], [[], [], [], []], [(0, [2, 3, 4, 5, 6, 7, 8, 9, 10, 11, 12, 13, 14, 15, 16, 17])], [], [[4], [5, 6, 7, 8, 9, 10, 11, 12, 13], [15, 16], [1, 17]], [[], [], [], []], [(14, ([14], []))], [(14, ([14, 0], []))], []⟩
  | 235 => Tab.hints ⟨[[], []], [[], []], [[], []], [], [], [[4], [0, 1, 5, 6, 7]], [[], []], [], [], []⟩
  | 236 => Tab.hints ⟨[[], [], [], [], [], [], [], []], [[], [], [], [], [], [], [], []], [[], [], [], [], [], [], [], []], [(0, [1, 2, 3, 4, 7, 8, 9, 10, 11, 12, 13, 14, 15, 16])], [], [[2], [4], [], [8], [3, 9, 10, 11, 12], [], [14], [0, 15, 16]], [[], [], [], [], [], [], [], []], [(7, ([7], [])), (13, ([13, 5, 0, 6], []))], [(7, ([7, 5, 6], [])), (13, ([13], []))], []⟩
  | 237 => Tab.hints ⟨[[], []], [[], []], [[], []], [], [], [[2], [0, 3, 4, 5, 6, 7, 8]], [[], []], [], [], []⟩
  | 243 => Tab.hints ⟨[[], [], [], []], [[], [], [], []], [[], [], [], []], [], [], [[4], [5, 6], [0, 1, 8, 9, 10, 11], [0, 12]], [[], [], [], []], [(7, ([7], []))], [(7, ([7, 1], []))], []⟩
  | 244 => Tab.hints ⟨[[], []], [[], []], [[], []], [], [], [[2], [0, 3, 4, 5, 6, 7, 8]], [[], []], [], [], []⟩
  | _ => Tab.hints noTab
end Go.Vs
end
