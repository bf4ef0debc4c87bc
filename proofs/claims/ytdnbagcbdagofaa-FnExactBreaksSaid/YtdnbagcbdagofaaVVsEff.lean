/- What one operation of the shadow runner does, told as an effect: which slots it writes and what becomes of the boxes; it hangs on its operands and on the boxes alone. -/
import Derived.Test.YtdnbagcbdagofaaVVsCore
set_option linter.unusedVariables false
set_option linter.unusedSimpArgs false
namespace Go.Vs
variable {m : Bool}

structure Eff (m : Bool) where
  tmps : List (Tmp × (SV m))
  boxes : Option (Boxes m)

def Eff.app (e : (Eff m)) (s : (St m)) : (St m) := { tmps := setAll s.tmps e.tmps, boxes := e.boxes.getD s.boxes }
def dstE (dst : Option Tmp) (v : (SV m)) : List (Tmp × (SV m)) := match dst with | some d => [(d, v)] | none => []

theorem setAll_append (l : List (SV m)) (a b : List (Tmp × (SV m))) : setAll l (a ++ b) = setAll (setAll l a) b := by simp [setAll]
theorem put_eq (s : (St m)) (dst : Option Tmp) (v : (SV m)) : s.put dst v = { s with tmps := setAll s.tmps (dstE dst v) } := by
  cases dst <;> simp [St.put, dstE, setAll]

def callE (D : (Oracle m)) (bs : (Boxes m)) (pureHint : Bool) (f : FuncId) (args : List (SV m)) : Option ((SV m) × Option (Boxes m)) :=
  guarded (args.all SV.handed) <|
    if pureHint then
      if idsOf args = [] then (D f args []).map fun r => (r.1, none) else none
    else
      (boxesAt bs (idsOf args)).bind fun cs => guarded (cs.all (·.all SV.flat)) <|
        (D f (args.map (SV.ren (placeIn (idsOf args)))) cs).map fun r => (r.1, some (putBoxes bs (idsOf args) r.2))

def effO (P : Program) (D : (Oracle m)) (nt : Nat) (mv pu ta : Bool) (o : Oper) (ρ : Operand → (SV m)) (bs : (Boxes m)) : Option (Eff m) :=
  let val (v : Option (SV m)) : Option (Eff m) := v.map fun v => ⟨dstE o.dst v, none⟩
  match o.op with
  | .move x | .assign x => if mv then some ⟨takeE ρ x ++ dstE o.dst (retype P o.type (ρ x)), none⟩ else some ⟨dstE o.dst (ρ x).drop, none⟩
  | .pick c a b => onBool (ρ c) fun c => branch c (some ⟨dstE o.dst (ρ a).drop, none⟩) (some ⟨dstE o.dst (ρ b).drop, none⟩)
  | .box _ x => match o.dst with
    | some d => match boxAt bs d with
      | none => guarded (decide (d < nt) && ((ρ x).flat || isFn (ρ x))) (some ⟨takeE ρ x ++ [(d, .ptr d 0)], some (bs.set d (some (ρ x).cells))⟩)
      | some _ => none
    | none => none
  | .alloc t => match o.dst with
    | some d => match boxAt bs d with
      | none => guarded (decide (d < nt)) <| (zeroLeaves P t).map fun z => ⟨[(d, .ptr d 0)], some (bs.set d (some (newCells P t 0 z)))⟩
      | some _ => none
    | none => none
  | .makeSlice t l c => match o.dst with
    | some d => match boxAt bs d with
      | none => guarded (decide (d < nt)) <| (makeV P t (ρ l) (ρ c)).map fun p => ⟨[(d, .bsl d p.1.1 0 p.1.2)], some (bs.set d (some p.2))⟩
      | some _ => none
    | none => none
  | .build t parts => val (buildV P t (parts.toList.map fun p => (p.1, ρ p.2)))
  | .buildSlice t n parts => val (buildSliceV P t n (parts.toList.map fun p => (p.1, ρ p.2)))
  | .load t x => match ρ x with
    | .eptr _ e p => val (partL P t e p)
    | .ptr b p => (boxAt bs b).bind fun cs =>
      if isAggT P t then (sizeT P t).bind fun n => if p + n ≤ cs.length then (asLeaves ((cs.drop p).take n)).map fun l => ⟨dstE o.dst (.agg l), none⟩ else none
      else (cs[p]?).map fun c => if mv then ⟨dstE o.dst c, some (bs.set b (some (cs.set p c.drop)))⟩ else ⟨dstE o.dst c.drop, none⟩
    | _ => none
  | .store t x y => match ρ x with
    | .eptr c e p => if (c.isSoft = true ∧ softAt e p = true) ∧ (ρ y).plain = true ∧ sizeT P t = some 1 then val (some .skip) else none
    | .ptr b p => (boxAt bs b).bind fun cs => (sizeT P t).bind fun n => guarded (ρ y).flat <|
      if n = (ρ y).cells.length ∧ p + n ≤ cs.length then some ⟨takeE ρ y ++ dstE o.dst .skip, some (bs.set b (some (cs.take p ++ (ρ y).cells ++ cs.drop (p + n))))⟩ else none
    | _ => none
  | .nilCheck x => match ρ x with
    | .ptr b p => val (some (.ptr b p))
    | .eptr c e p => val (some (.eptr c e p))
    | _ => none
  | .binOp op t x y _ => val (binV P op t (ρ x) (ρ y))
  | .unOp op _ x => val (unV op (ρ x))
  | .convert src dst x => val (convV P src dst (ρ x))
  | .makeFunc fn first caps => match fn with
    | .func f => if first.size = 0 then guarded ((caps.toList.map ρ).all capOk) (val (some (.fn f (caps.toList.map ρ)))) else none
    | _ => none
  | .slice t x lo hi mx => match mx with
    | none => (optNat ρ lo).bind fun l => (optNat ρ hi).bind fun h => val (sliceV P t (ρ x) l h)
    | some _ => none
  | .fieldAddr t x f => val (fieldAddrV P t (ρ x) f)
  | .field t x f => match ρ x with
    | .agg cs => (fieldT P t f).bind fun p => val (partL P p.2 cs p.1)
    | _ => none
  | .indexAddr t x i => val (indexAddrV P t (ρ x) (ρ i))
  | .index t x i => val (indexV P t (ρ x) (ρ i))
  | .extract x i => match ρ x with
    | .tup vs => (vs[i]?).bind fun v => val (some v.drop)
    | _ => none
  | .call c => match c.callee with
    | .builtin b => match b, c.args.toList with
      | .append, [x, y] => (appendV P c.argTypes (ρ x) (ρ y)).map fun v => ⟨takeE ρ x ++ dstE o.dst v, none⟩
      | .len, [x] => val (lenV P c.argTypes (ρ x))
      | .max, [x, y] => val (minV true (ρ x) (ρ y))
      | .min, [x, y] => val (minV false (ρ x) (ρ y))
      | _, _ => none
    | .value g => match ρ g with
      | .fn f caps => guarded (decide (operandTmps c.args.toList).Nodup) <| (callE D bs pu f (c.args.toList.map (argV ta ρ) ++ caps)).map fun r => ⟨(takenL ta c.args.toList).flatMap (takeE ρ) ++ dstE o.dst r.1, r.2⟩
      | _ => none
    | .invoke _ _ => none
  | _ => none

theorem exec_eff {β : Type} (P : Program) (D : (Oracle m)) (nt : Nat) (mv pu ta : Bool) (o : Oper) (s : (St m)) (k : (St m) → Option β) :
    execK P D nt mv pu ta o s k = (effO P D nt mv pu ta o s.eval s.boxes).bind fun e => k (e.app s) := by
  obtain ⟨dst, op, type, pos, after, guard⟩ := o
  have hd : ∀ v, s.put dst v = (⟨dstE dst v, none⟩ : (Eff m)).app s := fun v => by rw [put_eq]; rfl
  have ht : ∀ x v, (s.take x).put dst v = (⟨takeE s.eval x ++ dstE dst v, none⟩ : (Eff m)).app s := fun x v => by
    rw [put_eq]; simp [St.take, St.takes, Eff.app, setAll_append]
  cases op
  case move x => simp only [execK, effO]; split <;> simp [hd, ht]
  case assign x => simp only [execK, effO]; split <;> simp [hd, ht]
  case pick c a b =>
    simp only [execK, effO, hd]
    cases s.eval c <;> simp [onBool]
    rename_i l
    cases l <;> simp
    rename_i b
    cases b <;> simp [branch]
  case box t x =>
    simp only [execK, effO]
    cases dst with
    | none => rfl
    | some d =>
      simp only [St.box]
      cases boxAt s.boxes d with
      | some _ => rfl
      | none =>
        simp only
        cases (decide (d < nt) && ((s.eval x).flat || isFn (s.eval x))) <;> simp [guarded]
        congr 1
        simp [Eff.app, St.put, St.setBox, St.take, St.takes, setAll]
  case alloc t =>
    simp only [execK, effO]
    cases dst with
    | none => rfl
    | some d =>
      simp only [St.box]
      cases boxAt s.boxes d with
      | some _ => rfl
      | none => cases decide (d < nt) <;> cases zeroLeaves P t <;> simp [guarded, Eff.app, St.put, St.setBox, setAll]
  case makeSlice t l c =>
    simp only [execK, effO]
    cases dst with
    | none => rfl
    | some d =>
      simp only [St.box]
      cases boxAt s.boxes d with
      | some _ => rfl
      | none => cases decide (d < nt) <;> cases makeV P t (s.eval l) (s.eval c) <;> simp [guarded, Eff.app, St.put, St.setBox, setAll]
  case build t parts => simp only [execK, effO, hd]; cases buildV P t (parts.toList.map fun p => (p.1, s.eval p.2)) <;> simp
  case buildSlice t n parts => simp only [execK, effO, hd]; cases buildSliceV P t n (parts.toList.map fun p => (p.1, s.eval p.2)) <;> simp
  case load t x =>
    simp only [execK, effO, hd]
    cases s.eval x <;> simp only [Option.bind_none]
    · rename_i b p
      simp only [St.box]
      cases boxAt s.boxes b with
      | none => rfl
      | some cs =>
        simp only [Option.bind_some]
        split
        · cases sizeT P t with
          | none => rfl
          | some n =>
            simp only [Option.bind_some]
            split
            · cases asLeaves ((cs.drop p).take n) <;> simp
            · rfl
        · cases cs[p]? with
          | none => rfl
          | some c => cases mv <;> simp [Eff.app, St.put, St.setBox, dstE, setAll] <;> cases dst <;> simp
    · rename_i c e p
      cases partL P t e p <;> simp
  case store t x y =>
    simp only [execK, effO]
    cases s.eval x <;> simp only [Option.bind_none]
    rotate_left
    · rename_i c e p
      split
      · simp [hd]
      · rfl
    rename_i b p
    simp only [St.box]
    cases boxAt s.boxes b with
    | none => rfl
    | some cs =>
      simp only [Option.bind_some]
      cases sizeT P t with
      | none => rfl
      | some n =>
        simp only [Option.bind_some]
        cases (s.eval y).flat <;> simp only [guarded, Option.bind_none]
        split
        · simp only [Option.bind_some]
          congr 1
          rw [put_eq]
          simp [Eff.app, St.setBox, St.take, St.takes, setAll_append]
        · rfl
  case nilCheck x => simp only [execK, effO, hd]; cases s.eval x <;> simp
  case binOp op t x y u => simp only [execK, effO, hd]; cases binV P op t (s.eval x) (s.eval y) <;> simp
  case unOp op t x => simp only [execK, effO, hd]; cases unV op (s.eval x) <;> simp
  case convert a b x => simp only [execK, effO, hd]; cases convV P a b (s.eval x) <;> simp
  case makeFunc fn first caps =>
    simp only [execK, effO, hd]
    cases fn <;> simp only [Option.bind_none]
    split
    · cases (caps.toList.map s.eval).all capOk <;> simp [guarded]
    · rfl
  case slice t x lo hi mx =>
    simp only [execK, effO, hd]
    cases mx <;> simp only [Option.bind_none]
    cases optNat s.eval lo with
    | none => rfl
    | some l =>
      cases optNat s.eval hi with
      | none => rfl
      | some h => simp only [Option.bind_some]; cases sliceV P t (s.eval x) l h <;> simp
  case fieldAddr t x f => simp only [execK, effO, hd]; cases fieldAddrV P t (s.eval x) f <;> simp
  case field t x f =>
    simp only [execK, effO, hd]
    cases s.eval x <;> simp only [Option.bind_none]
    rename_i cs
    cases fieldT P t f with
    | none => rfl
    | some p => simp only [Option.bind_some]; cases partL P p.2 cs p.1 <;> simp
  case indexAddr t x i => simp only [execK, effO, hd]; cases indexAddrV P t (s.eval x) (s.eval i) <;> simp
  case index t x i => simp only [execK, effO, hd]; cases indexV P t (s.eval x) (s.eval i) <;> simp
  case extract x i =>
    simp only [execK, effO, hd]
    cases s.eval x <;> simp only [Option.bind_none]
    rename_i vs
    cases vs[i]? <;> simp
  case call c =>
    simp only [execK, effO, hd]
    cases c.callee with
    | invoke _ _ => rfl
    | builtin b =>
      simp only
      generalize c.args.toList = l
      cases b <;> (try rfl) <;> (rcases l with _ | ⟨x, _ | ⟨y, _ | ⟨z, r⟩⟩⟩ <;> (try rfl))
      · simp only [ht]; cases appendV P c.argTypes (s.eval x) (s.eval y) <;> rfl
      · simp only; cases lenV P c.argTypes (s.eval x) <;> rfl
      · simp only; cases minV true (s.eval x) (s.eval y) <;> rfl
      · simp only; cases minV false (s.eval x) (s.eval y) <;> rfl
    | value g =>
      simp only
      cases s.eval g <;> simp only [Option.bind_none]
      rename_i f caps
      simp only [callK, callE]
      cases decide (operandTmps c.args.toList).Nodup <;> simp only [guarded, Option.bind_none]
      cases (c.args.toList.map (argV ta s.eval) ++ caps).all SV.handed <;> simp only [guarded, Option.map_none, Option.bind_none]
      cases pu
      · simp only [Bool.false_eq_true, if_false, St.takes]
        cases boxesAt s.boxes (idsOf (c.args.toList.map (argV ta s.eval) ++ caps)) with
        | none => rfl
        | some cs =>
          simp only [Option.bind_some]
          cases cs.all (·.all SV.flat) <;> simp only [Option.map_none, Option.bind_none]
          cases D f ((c.args.toList.map (argV ta s.eval) ++ caps).map (SV.ren (placeIn (idsOf (c.args.toList.map (argV ta s.eval) ++ caps))))) cs with
          | none => rfl
          | some r =>
            simp only [Option.bind_some, Option.map_some]
            congr 1
            rw [put_eq]
            simp [Eff.app, setAll_append]
      · simp only [if_true]
        split
        · cases D f (c.args.toList.map (argV ta s.eval) ++ caps) [] with
          | none => rfl
          | some r =>
            simp only [Option.bind_some, Option.map_some]
            congr 1
            rw [put_eq]
            simp [Eff.app, St.takes, setAll_append]
        · rfl
  all_goals rfl

end Go.Vs
