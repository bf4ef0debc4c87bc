/- A region of the shadow runner: where a look at the operations' text allows it, every order comes to what the text's order comes to. No theorem of the machine stands here. -/
import Derived.Test.YtdnbagcbdagofaaVVsEff
namespace Go.Vs
variable {m : Bool}

section
variable {P : Program} {D : (Oracle m)} {ops : Array Oper} {nt : Nat} {mv pu ta : Nat → Bool}

/-- One operation with its guard, as an effect. -/
def stepE (P : Program) (D : (Oracle m)) (nt : Nat) (mv pu ta : Bool) (ops : Array Oper) (o : Oper) (s : (St m)) : Option (Eff m) :=
  match o.guard with
  | none => effO P D nt mv pu ta o s.eval s.boxes
  | some (j, want) => match (ops[j]?).bind (·.dst) with
    | some t => onGuard (s.tmps.getD t .any) want (effO P D nt mv pu ta o s.eval s.boxes) (some ⟨dstE o.dst .skip, none⟩)
    | none => none

theorem onGuard_bind {α β : Type} (v : (SV m)) (want : Bool) (x y : Option α) (f : α → Option β) : (onGuard v want x y).bind f = onGuard v want (x.bind f) (y.bind f) := by
  unfold onGuard
  cases v <;> try rfl
  rename_i l
  cases l <;> try rfl
  rename_i b
  simp only [branch]
  cases b == want <;> rfl

theorem stepK_eff {β : Type} (mv pu ta : Bool) (o : Oper) (s : (St m)) (k : (St m) → Option β) :
    stepK P D nt mv pu ta ops o s k = (stepE P D nt mv pu ta ops o s).bind fun e => k (e.app s) := by
  unfold stepK stepE
  cases o.guard with
  | none => exact exec_eff ..
  | some g =>
    obtain ⟨j, want⟩ := g
    simp only
    cases (ops[j]?).bind (·.dst) with
    | none => rfl
    | some t =>
      simp only [onGuard_bind, exec_eff, Option.bind_some]
      rw [put_eq]; rfl

/-! ### What an effect hangs on, and where it writes -/
theorem takeE_congr {ρ ρ' : Operand → (SV m)} {x : Operand} (h : ρ x = ρ' x) : takeE ρ x = takeE ρ' x := by cases x <;> simp_all [takeE]
theorem optNat_congr {ρ ρ' : Operand → (SV m)} {x : Option Operand} (h : ∀ y ∈ x.toArray, ρ y = ρ' y) : optNat ρ x = optNat ρ' x := by cases x <;> simp_all [optNat]
theorem flatMap_takeE_congr {ρ ρ' : Operand → (SV m)} {l : List Operand} (h : ∀ y ∈ l, ρ y = ρ' y) : l.flatMap (takeE ρ) = l.flatMap (takeE ρ') := by
  induction l with
  | nil => rfl
  | cons x l ih => simp only [List.flatMap_cons]; rw [takeE_congr (h x (by simp)), ih fun y hy => h y (by simp [hy])]

theorem effO_congr {mv pu ta : Bool} {o : Oper} {ρ ρ' : Operand → (SV m)} {bs bs' : (Boxes m)} (h : ∀ x ∈ o.op.operands, ρ x = ρ' x) (hb : opBoxes mv pu ta o ≠ 0 → bs = bs') :
    effO P D nt mv pu ta o ρ bs = effO P D nt mv pu ta o ρ' bs' := by
  obtain ⟨dst, op, type, pos, after, guard⟩ := o
  have pairs : ∀ ps : Array (Nat × Operand), (∀ x ∈ (ps.toList.map (·.2)), ρ x = ρ' x) → (ps.toList.map fun p => (p.1, ρ p.2)) = (ps.toList.map fun p => (p.1, ρ' p.2)) := fun ps hp =>
    List.map_congr_left fun p hm => by rw [hp p.2 (List.mem_map.2 ⟨p, hm, rfl⟩)]
  cases op
  case build t ps => simp only [effO]; rw [pairs ps fun x hx => h x (by simpa [Op.operands] using hx)]
  case buildSlice t n ps => simp only [effO]; rw [pairs ps fun x hx => h x (by simpa [Op.operands] using hx)]
  case makeFunc fn first caps =>
    simp only [effO]
    rw [List.map_congr_left (l := caps.toList) (g := ρ') fun x hx => h x (by simp only [Op.operands, Array.mem_append]; exact .inr (by simpa using hx))]
  case slice t x lo hi mx =>
    simp only [effO]
    cases mx with
    | some _ => rfl
    | none =>
      simp only
      rw [h x (by simp [Op.operands]), optNat_congr (x := lo) fun y hy => h y (by simp only [Op.operands, Array.mem_append]; exact .inl (.inl (.inr hy))),
        optNat_congr (x := hi) fun y hy => h y (by simp only [Op.operands, Array.mem_append]; exact .inl (.inr hy))]
  case call c =>
    simp only [effO]
    have hargs : ∀ x ∈ c.args.toList, ρ x = ρ' x := fun x hx => h x (by simp only [Op.operands, Call.operands, Array.mem_append]; exact .inr (by simpa using hx))
    cases hc : c.callee with
    | invoke _ _ => rfl
    | builtin b =>
      simp only
      generalize c.args.toList = l at hargs
      cases b <;> (try rfl) <;> (rcases l with _ | ⟨x, _ | ⟨y, _ | ⟨z, r⟩⟩⟩ <;> (try rfl))
      · simp only; rw [hargs x (by simp), hargs y (by simp), takeE_congr (hargs x (by simp))]
      · simp only; rw [hargs x (by simp)]
      · simp only; rw [hargs x (by simp), hargs y (by simp)]
      · simp only; rw [hargs x (by simp), hargs y (by simp)]
    | value g =>
      have hg : ρ g = ρ' g := h g (by simp [Op.operands, Call.operands, hc])
      simp only
      have e1 : c.args.toList.map (argV ta ρ) = c.args.toList.map (argV ta ρ') := List.map_congr_left fun x hx => by unfold argV; rw [hargs x hx]
      have e2 : (takenL ta c.args.toList).flatMap (takeE ρ) = (takenL ta c.args.toList).flatMap (takeE ρ') := flatMap_takeE_congr fun x hx => hargs x (by cases ta with | true => exact hx | false => simp [takenL] at hx)
      rw [hg, e1, e2]
      cases ρ' g <;> try rfl
      rename_i f caps
      simp only
      congr 2
      unfold callE
      cases pu
      · rw [hb (by simp [opBoxes, hc])]
      · rfl
  case load t x =>
    simp only [effO]
    rw [h x (by simp [Op.operands]), hb (by simp only [opBoxes]; split <;> simp)]
  case store t x y =>
    simp only [effO]
    rw [h x (by simp [Op.operands]), h y (by simp [Op.operands]), takeE_congr (h y (by simp [Op.operands])), hb (by simp [opBoxes])]
  case box t x =>
    simp only [effO]
    rw [h x (by simp [Op.operands]), takeE_congr (h x (by simp [Op.operands])), hb (by simp [opBoxes])]
  case alloc t => simp only [effO]; rw [hb (by simp [opBoxes])]
  case makeSlice t l c => simp only [effO]; rw [h l (by simp [Op.operands]), h c (by simp [Op.operands]), hb (by simp [opBoxes])]
  case move x => simp only [effO]; rw [h x (by simp [Op.operands]), takeE_congr (h x (by simp [Op.operands]))]
  case assign x => simp only [effO]; rw [h x (by simp [Op.operands]), takeE_congr (h x (by simp [Op.operands]))]
  case pick c a b => simp only [effO]; rw [h c (by simp [Op.operands]), h a (by simp [Op.operands]), h b (by simp [Op.operands])]
  all_goals first | (simp only [effO]; done) | (simp only [effO]; simp_all [Op.operands]; done)

theorem mem_takeE {ρ : Operand → (SV m)} {x : Operand} {p : Tmp × (SV m)} (h : p ∈ takeE ρ x) : p.1 ∈ operandTmps [x] := by
  cases x <;> simp_all [takeE, operandTmps]
theorem mem_takesE {ρ : Operand → (SV m)} {l : List Operand} {p : Tmp × (SV m)} (h : p ∈ l.flatMap (takeE ρ)) : p.1 ∈ operandTmps l := by
  obtain ⟨x, hx, hp⟩ := List.mem_flatMap.1 h
  have := mem_takeE hp
  simp only [operandTmps, List.mem_filterMap] at this ⊢
  obtain ⟨y, hy, e⟩ := this
  exact ⟨y, by simp at hy; subst hy; exact hx, e⟩
theorem mem_dstE {dst : Option Tmp} {v : (SV m)} {p : Tmp × (SV m)} (h : p ∈ dstE dst v) : p.1 ∈ dst.toList := by
  cases dst <;> simp_all [dstE]

theorem eff_writes {mv pu ta : Bool} {o : Oper} {ρ : Operand → (SV m)} {bs : (Boxes m)} {e : (Eff m)} (h : effO P D nt mv pu ta o ρ bs = some e) :
    (∀ p ∈ e.tmps, p.1 ∈ opWrites mv o) ∧ (opBoxes mv pu ta o ≠ 2 → e.boxes = none) := by
  obtain ⟨dst, op, type, pos, after, guard⟩ := o
  have val : ∀ {v : Option (SV m)}, (v.map fun v => (⟨dstE dst v, none⟩ : (Eff m))) = some e → (∀ p ∈ e.tmps, p.1 ∈ dst.toList) ∧ e.boxes = none := by
    intro v hv
    obtain ⟨u, _, rfl⟩ := Option.map_eq_some_iff.1 hv
    exact ⟨fun p hp => mem_dstE hp, rfl⟩
  have fin : ∀ {op : Op}, (∀ p ∈ e.tmps, p.1 ∈ dst.toList) ∧ e.boxes = none → (∀ p ∈ e.tmps, p.1 ∈ opWrites mv ⟨dst, op, type, pos, after, guard⟩) ∧ (opBoxes mv pu ta ⟨dst, op, type, pos, after, guard⟩ ≠ 2 → e.boxes = none) :=
    fun ⟨a, b⟩ => ⟨fun p hp => by simp only [opWrites, List.mem_append]; exact .inl (a p hp), fun _ => b⟩
  have mov : ∀ {x : Operand}, (if mv = true then some ⟨takeE ρ x ++ dstE dst (retype P type (ρ x)), none⟩ else some ⟨dstE dst (ρ x).drop, none⟩ : Option (Eff m)) = some e →
      (∀ p ∈ e.tmps, p.1 ∈ dst.toList ++ (if mv = true then operandTmps [x] else [])) ∧ e.boxes = none := by
    intro x hx
    split at hx
    · obtain rfl := Option.some.inj hx
      refine ⟨fun p hp => ?_, rfl⟩
      rename_i hm
      simp only [hm, if_true, List.mem_append]
      rcases List.mem_append.1 hp with h | h
      · exact .inr (mem_takeE h)
      · exact .inl (mem_dstE h)
    · obtain rfl := Option.some.inj hx
      exact ⟨fun p hp => List.mem_append.2 (.inl (mem_dstE hp)), rfl⟩
  cases op <;> simp only [effO] at h
  case move x => exact ⟨fun p hp => by simpa [opWrites, opTakes] using (mov h).1 p hp, fun _ => (mov h).2⟩
  case assign x => exact ⟨fun p hp => by simpa [opWrites, opTakes] using (mov h).1 p hp, fun _ => (mov h).2⟩
  case pick c a b =>
    refine fin ?_
    cases hc : ρ c <;> simp [hc, onBool] at h
    rename_i l
    cases l <;> simp at h
    rename_i b
    cases b <;> simp [branch] at h <;> subst h <;> exact ⟨fun p hp => mem_dstE hp, rfl⟩
  case box t x =>
    refine ⟨?_, fun hne => absurd rfl hne⟩
    cases dst with
    | none => simp at h
    | some d =>
      simp only at h
      split at h
      · cases hg : (decide (d < nt) && ((ρ x).flat || isFn (ρ x))) <;> simp only [hg, guarded] at h <;> try (simp at h; done)
        obtain h := Option.some.inj h
        subst h
        intro p hp
        simp only [opWrites, opTakes, List.mem_append]
        rcases List.mem_append.1 hp with h | h
        · exact .inr (mem_takeE h)
        · exact .inl (by simp at h; subst h; simp)
      · simp at h
  case alloc t =>
    refine ⟨?_, fun hne => absurd rfl hne⟩
    cases dst with
    | none => simp at h
    | some d =>
      simp only at h
      split at h
      · cases hg : decide (d < nt) <;> simp only [hg, guarded] at h <;> try (simp at h; done)
        obtain ⟨z, _, rfl⟩ := Option.map_eq_some_iff.1 h
        intro p hp
        simp at hp
        subst hp
        simp [opWrites]
      · simp at h
  case makeSlice t l c =>
    refine ⟨?_, fun hne => absurd rfl hne⟩
    cases dst with
    | none => simp at h
    | some d =>
      simp only at h
      split at h
      · cases hg : decide (d < nt) <;> simp only [hg, guarded] at h <;> try (simp at h; done)
        obtain ⟨z, _, rfl⟩ := Option.map_eq_some_iff.1 h
        intro p hp
        simp at hp
        subst hp
        simp [opWrites]
      · simp at h
  case load t x =>
    refine ⟨?_, fun hne => ?_⟩ <;> cases hx : ρ x <;> simp only [hx] at h <;> try (simp at h; done)
    · obtain ⟨cs, _, h⟩ := Option.bind_eq_some_iff.1 h
      intro p hp
      simp only [opWrites, List.mem_append]
      refine .inl ?_
      split at h
      · obtain ⟨n, _, h⟩ := Option.bind_eq_some_iff.1 h
        split at h
        · obtain ⟨l, _, rfl⟩ := Option.map_eq_some_iff.1 h; exact mem_dstE hp
        · simp at h
      · obtain ⟨c, _, rfl⟩ := Option.map_eq_some_iff.1 h
        cases mv <;> exact mem_dstE hp
    · exact (fin (val h)).1
    · have hm : mv = false := by cases mv <;> simp [opBoxes] at hne ⊢
      obtain ⟨cs, _, h⟩ := Option.bind_eq_some_iff.1 h
      split at h
      · obtain ⟨n, _, h⟩ := Option.bind_eq_some_iff.1 h
        split at h
        · obtain ⟨l, _, rfl⟩ := Option.map_eq_some_iff.1 h; rfl
        · simp at h
      · obtain ⟨c, _, rfl⟩ := Option.map_eq_some_iff.1 h; simp [hm]
    · exact (fin (val h) (op := .load t x)).2 hne
  case store t x y =>
    refine ⟨?_, fun hne => absurd rfl hne⟩
    cases hx : ρ x <;> simp only [hx] at h <;> try (simp at h; done)
    rotate_left
    · split at h
      · exact (fin (val h)).1
      · simp at h
    obtain ⟨cs, _, h⟩ := Option.bind_eq_some_iff.1 h
    obtain ⟨n, _, h⟩ := Option.bind_eq_some_iff.1 h
    cases hf : (ρ y).flat <;> simp only [hf, guarded] at h <;> try (simp at h; done)
    split at h
    · obtain rfl := Option.some.inj h
      intro p hp
      simp only [opWrites, opTakes, List.mem_append]
      rcases List.mem_append.1 hp with h | h
      · exact .inr (mem_takeE h)
      · exact .inl (mem_dstE h)
    · simp at h
  case makeFunc fn first caps =>
    cases fn <;> simp only at h <;> try (simp at h; done)
    split at h
    · cases hg : (caps.toList.map ρ).all capOk <;> simp only [hg, guarded] at h <;> try (simp at h; done)
      exact fin (val h)
    · simp at h
  case slice t x lo hi mx =>
    cases mx <;> simp only at h <;> try (simp at h; done)
    obtain ⟨l, _, h⟩ := Option.bind_eq_some_iff.1 h
    obtain ⟨u, _, h⟩ := Option.bind_eq_some_iff.1 h
    exact fin (val h)
  case nilCheck x => cases hx : ρ x <;> simp only [hx] at h <;> first | exact fin (val h) | (simp at h; done)
  case field t x f =>
    cases hx : ρ x <;> simp only [hx] at h <;> try (simp at h; done)
    obtain ⟨p, _, h⟩ := Option.bind_eq_some_iff.1 h
    exact fin (val h)
  case extract x i =>
    cases hx : ρ x <;> simp only [hx] at h <;> try (simp at h; done)
    obtain ⟨p, _, h⟩ := Option.bind_eq_some_iff.1 h
    exact fin (val h)
  case call c =>
    cases hc : c.callee with
    | invoke _ _ => simp [hc] at h
    | builtin b =>
      simp only [hc] at h
      have ha : ∀ x y, b = .append → c.args.toList = [x, y] → e.boxes = none → (∀ p ∈ e.tmps, p ∈ takeE ρ x ∨ p.1 ∈ dst.toList) → (∀ p ∈ e.tmps, p.1 ∈ opWrites mv ⟨dst, .call c, type, pos, after, guard⟩) ∧ (opBoxes mv pu ta ⟨dst, .call c, type, pos, after, guard⟩ ≠ 2 → e.boxes = none) := by
        intro x y hb hl he hp
        refine ⟨fun p hpe => ?_, fun _ => he⟩
        subst hb
        simp only [opWrites, opTakes, hc, hl, List.mem_append, List.take_succ_cons, List.take_zero]
        exact (hp p hpe).elim (fun h => .inr (mem_takeE h)) .inl
      generalize hl : c.args.toList = l at h ha
      cases b <;> (try (simp at h; done)) <;> (rcases l with _ | ⟨x, _ | ⟨y, _ | ⟨z, r⟩⟩⟩ <;> (try (simp at h; done)))
      · obtain ⟨v, _, rfl⟩ := Option.map_eq_some_iff.1 h
        exact ha x y rfl rfl rfl fun p hp => (List.mem_append.1 hp).imp id mem_dstE
      · exact fin (val h)
      · exact fin (val h)
      · exact fin (val h)
    | value g =>
      simp only [hc] at h
      cases hg : ρ g <;> simp only [hg] at h <;> try (simp at h; done)
      rename_i f caps
      cases hn : decide (operandTmps c.args.toList).Nodup <;> simp only [hn, guarded] at h <;> try (simp at h; done)
      obtain ⟨r, hr, rfl⟩ := Option.map_eq_some_iff.1 h
      refine ⟨fun p hp => ?_, fun hne => ?_⟩
      · simp only [opWrites, opTakes, hc, List.mem_append]
        refine (List.mem_append.1 hp).elim (fun h => .inr ?_) (fun h => .inl (mem_dstE h))
        cases ta with
        | true => exact mem_takesE h
        | false => simp [takenL] at h
      · cases pu
        · simp [opBoxes, hc] at hne
        · simp only [callE, if_true] at hr
          cases ha : (c.args.toList.map (argV ta ρ) ++ caps).all SV.handed <;> simp only [ha, guarded] at hr <;> try (simp at hr; done)
          split at hr
          · obtain ⟨q, _, rfl⟩ := Option.map_eq_some_iff.1 hr; rfl
          · simp at hr
  all_goals first
    | (simp at h; done)
    | exact fin (val h)

/-! ### Slots -/
theorem getD_setAll (l : List (SV m)) (us : List (Tmp × (SV m))) (t : Nat) (d : (SV m)) (h : t ∉ us.map (·.1)) : (setAll l us).getD t d = l.getD t d := by
  induction us generalizing l with
  | nil => rfl
  | cons u us ih =>
    simp only [List.map_cons, List.mem_cons, not_or] at h
    simp only [setAll, List.foldl_cons]
    rw [show List.foldl (fun l (p : Tmp × (SV m)) => l.set p.1 p.2) (l.set u.1 u.2) us = setAll (l.set u.1 u.2) us from rfl, ih _ h.2]
    simp [List.getD_eq_getElem?_getD, List.getElem?_set_ne (Ne.symm h.1)]
theorem setAll_set (l : List (SV m)) (us : List (Tmp × (SV m))) (t : Nat) (v : (SV m)) (h : t ∉ us.map (·.1)) : setAll (l.set t v) us = (setAll l us).set t v := by
  induction us generalizing l with
  | nil => rfl
  | cons u us ih =>
    simp only [List.map_cons, List.mem_cons, not_or] at h
    simp only [setAll, List.foldl_cons]
    rw [List.set_comm _ _ h.1]
    exact ih _ h.2
theorem setAll_comm (l : List (SV m)) (us vs : List (Tmp × (SV m))) (h : ∀ p ∈ us, p.1 ∉ vs.map (·.1)) : setAll (setAll l us) vs = setAll (setAll l vs) us := by
  induction us generalizing l with
  | nil => rfl
  | cons u us ih =>
    have h1 := h u (by simp)
    have e1 : setAll l (u :: us) = setAll (l.set u.1 u.2) us := rfl
    have e2 : setAll (setAll l vs) (u :: us) = setAll ((setAll l vs).set u.1 u.2) us := rfl
    rw [e1, e2, ih _ fun p hp => h p (by simp [hp]), setAll_set _ _ _ _ h1]

/-- The two agree on what the operation looks at. -/
theorem stepE_congr {mv pu ta : Bool} {o : Oper} {s s' : (St m)} (h : ∀ t ∈ o.looksAt ops, s.tmps.getD t .any = s'.tmps.getD t .any) (hb : opBoxes mv pu ta o ≠ 0 → s.boxes = s'.boxes) :
    stepE P D nt mv pu ta ops o s = stepE P D nt mv pu ta ops o s' := by
  have he : effO P D nt mv pu ta o s.eval s.boxes = effO P D nt mv pu ta o s'.eval s'.boxes := effO_congr (fun x hx => by
    cases x with
    | tmp t => exact h t (by simp only [Oper.looksAt, List.mem_append, List.mem_filterMap]; exact .inl ⟨.tmp t, by simpa using hx, rfl⟩)
    | _ => rfl) hb
  unfold stepE
  rw [he]
  cases hg : o.guard with
  | none => rfl
  | some g =>
    obtain ⟨j, want⟩ := g
    simp only
    cases hj : (ops[j]?).bind (·.dst) with
    | none => rfl
    | some t =>
      have : s.tmps.getD t .any = s'.tmps.getD t .any := h t (by simp [Oper.looksAt, hg, hj])
      simp only [this]
theorem stepE_writes {mv pu ta : Bool} {o : Oper} {s : (St m)} {e : (Eff m)} (h : stepE P D nt mv pu ta ops o s = some e) :
    (∀ p ∈ e.tmps, p.1 ∈ opWrites mv o) ∧ (opBoxes mv pu ta o ≠ 2 → e.boxes = none) := by
  unfold stepE at h
  cases hg : o.guard with
  | none => simp only [hg] at h; exact eff_writes h
  | some g =>
    obtain ⟨j, want⟩ := g
    simp only [hg] at h
    cases hj : (ops[j]?).bind (·.dst) with
    | none => simp [hj] at h
    | some t =>
      have skip : (some ⟨dstE o.dst .skip, none⟩ : Option (Eff m)) = some e → (∀ p ∈ e.tmps, p.1 ∈ opWrites mv o) ∧ (opBoxes mv pu ta o ≠ 2 → e.boxes = none) := by
        rintro h
        obtain rfl := Option.some.inj h
        exact ⟨fun p hp => by simp only [opWrites, List.mem_append]; exact .inl (mem_dstE hp), fun _ => rfl⟩
      simp only [hj, onGuard] at h
      split at h
      · rename_i b _
        simp only [branch] at h
        split at h
        · exact eff_writes h
        · exact skip h
      · exact skip h
      · simp at h

/-- Two that are apart change places. -/
theorem step_comm {i j : Nat} {oi oj : Oper} {s : (St m)} {ei ej : (Eff m)} (hap : apartV mv pu ta ops i j oi oj = true)
    (hi : stepE P D nt (mv i) (pu i) (ta i) ops oi s = some ei) (hj : stepE P D nt (mv j) (pu j) (ta j) ops oj (ei.app s) = some ej) :
    stepE P D nt (mv j) (pu j) (ta j) ops oj s = some ej ∧ stepE P D nt (mv i) (pu i) (ta i) ops oi (ej.app s) = some ei ∧ ej.app (ei.app s) = ei.app (ej.app s) := by
  simp only [apartV, Bool.and_eq_true, List.all_eq_true, Bool.not_eq_true', List.contains_eq_mem, decide_eq_false_iff_not, Bool.or_eq_true, beq_iff_eq] at hap
  obtain ⟨⟨h1, h2⟩, h3⟩ := hap
  obtain ⟨wi, bi⟩ := stepE_writes hi
  obtain ⟨wj, bj⟩ := stepE_writes hj
  have hbi : opBoxes (mv j) (pu j) (ta j) oj ≠ 0 → ei.boxes = none := fun h => bi (by omega)
  have hbj : opBoxes (mv i) (pu i) (ta i) oi ≠ 0 → ej.boxes = none := fun h => bj (by omega)
  have nin : ∀ t, t ∈ oj.looksAt ops → t ∉ ei.tmps.map (·.1) := fun t ht hm => by
    obtain ⟨p, hp, rfl⟩ := List.mem_map.1 hm
    exact (h1 p.1 (wi p hp)).1 ht
  have nin' : ∀ t, t ∈ oi.looksAt ops → t ∉ ej.tmps.map (·.1) := fun t ht hm => by
    obtain ⟨p, hp, rfl⟩ := List.mem_map.1 hm
    exact h2 p.1 (wj p hp) ht
  refine ⟨?_, ?_, ?_⟩
  · rw [← hj]
    exact stepE_congr (fun t ht => (getD_setAll _ _ _ _ (nin t ht)).symm) (fun h => by simp [Eff.app, hbi h])
  · rw [← hi]
    exact stepE_congr (fun t ht => getD_setAll _ _ _ _ (nin' t ht)) (fun h => by simp [Eff.app, hbj h])
  · have hc : setAll (setAll s.tmps ei.tmps) ej.tmps = setAll (setAll s.tmps ej.tmps) ei.tmps := setAll_comm _ _ _ fun p hp hm => by
      obtain ⟨q, hq, e⟩ := List.mem_map.1 hm
      exact (h1 p.1 (wi p hp)).2 (e ▸ wj q hq)
    have hb : ei.boxes = none ∨ ej.boxes = none := by
      rcases Nat.eq_zero_or_pos (opBoxes (mv j) (pu j) (ta j) oj) with h | h
      · exact .inr (bj (by omega))
      · exact .inl (hbi (by omega))
    rcases hb with hb | hb <;> simp [Eff.app, hc, hb]

/-! ### Whatever order -/
def anyA (P : Program) (D : (Oracle m)) (nt : Nat) (mv pu ta : Nat → Bool) (ops : Array Oper) (Q : (St m) → Prop) : Nat → Array Bool → (St m) → Prop
  | 0, listed, s => Region.ready .any ops listed = [] ∧ Q s
  | fuel + 1, listed, s => (Region.ready .any ops listed = [] → Q s) ∧
    ∀ i ∈ Region.ready .any ops listed, ∃ o e, ops[i]? = some o ∧ stepE P D nt (mv i) (pu i) (ta i) ops o s = some e ∧ anyA P D nt mv pu ta ops Q fuel (listed.setIfInBounds i true) (e.app s)

theorem any_first {Q : (St m) → Prop} {i : Nat} {oi : Oper} {ei : (Eff m)} (hi : ops[i]? = some oi) :
    ∀ (fuel : Nat) (listed : Array Bool) (s : (St m)),
      (∀ j oj, ops[j]? = some oj → j ≠ i → listed.getD j true = false → (∀ e ∈ oj.after, Region.binds .any e = true → e.on ≠ i) → apartV mv pu ta ops i j oi oj = true) →
      i ∈ Region.ready .any ops listed → stepE P D nt (mv i) (pu i) (ta i) ops oi s = some ei →
      anyA P D nt mv pu ta ops Q fuel (listed.setIfInBounds i true) (ei.app s) → anyA P D nt mv pu ta ops Q (fuel + 1) listed s := by
  intro fuel
  induction fuel with
  | zero =>
    intro listed s _ hr hy H
    refine ⟨fun h => (by rw [h] at hr; cases hr), fun j hj => ?_⟩
    by_cases hji : j = i
    · subst hji; exact ⟨oi, ei, hi, hy, H⟩
    · have := ready_mono hj hji
      rw [H.1] at this
      cases this
  | succ fuel ih =>
    intro listed s hfree hr hy H
    refine ⟨fun h => (by rw [h] at hr; cases hr), fun j hj => ?_⟩
    by_cases hji : j = i
    · subst hji; exact ⟨oi, ei, hi, hy, H⟩
    · obtain ⟨oj, ej, hoj, hsj, hrest⟩ := H.2 j (ready_mono hj hji)
      obtain ⟨hjun, oj', hoj', hall⟩ := mem_ready.1 hj
      obtain rfl : oj' = oj := by rw [hoj] at hoj'; exact (Option.some.inj hoj').symm
      have hnot : ∀ e ∈ oj'.after, Region.binds .any e = true → e.on ≠ i := fun e he hb heq => by
        have h1 := hall e he hb
        have h0 := (mem_ready.1 hr).1
        rw [heq] at h1
        rcases Nat.lt_or_ge i listed.size with h' | h'
        · simp [h'] at h0 h1; rw [h0] at h1; cases h1
        · simp [Array.getElem?_eq_none h'] at h1
      obtain ⟨c1, c2, c3⟩ := step_comm (hfree j oj' hoj hji hjun hnot) hy hsj
      refine ⟨oj', ej, hoj, c1, ih (listed.setIfInBounds j true) (ej.app s) ?_ (ready_mono hr (Ne.symm hji)) c2 ?_⟩
      · intro k ok hk hki hun hno
        refine hfree k ok hk hki ?_ hno
        by_cases hjk : j = k
        · subst hjk; exact hjun
        · rw [getD_set_ne true hjk] at hun; exact hun
      · rw [Array.setIfInBounds_comm _ _ hji, ← c3]
        exact hrest

theorem any_lex : ∀ (l : List Oper) (k : Nat) (listed : Array Bool) (s s' : (St m)), (∀ j, l[j]? = ops[k + j]?) →
    okFrom mv pu ta ops l.length k listed = true → stepsK P D nt mv pu ta ops l k s some = some s' → anyA P D nt mv pu ta ops (· = s') l.length listed s
  | [], _, _, s, s', _, hB, h => by
    simp only [stepsK, Option.some.injEq] at h
    exact ⟨by simpa [okFrom] using hB, h⟩
  | o :: l, k, listed, s, s', hl, hB, h => by
    have h0 : ops[k]? = some o := by simpa using (hl 0).symm
    simp only [List.length_cons, okFrom, Bool.and_eq_true] at hB
    obtain ⟨⟨hr, hf⟩, hB'⟩ := hB
    simp only [stepsK, stepK_eff] at h
    obtain ⟨e, he, hrest⟩ := Option.bind_eq_some_iff.1 h
    refine any_first h0 l.length listed s ?_ (by simpa using hr) he (any_lex l (k + 1) _ _ _ (fun j => by have := hl (j + 1); simpa [Nat.add_assoc, Nat.add_comm 1 j] using this) hB' hrest)
    intro j oj hoj hjk hun hno
    have hj : j < ops.size := (Array.getElem?_eq_some_iff.1 hoj).1
    have := List.all_eq_true.1 hf j (List.mem_range.2 hj)
    simp only [Bool.or_eq_true, beq_iff_eq, hjk, hun, Bool.false_eq_true, false_or, h0, hoj, Array.any_eq_true, Bool.and_eq_true] at this
    rcases this with ⟨n, hn, hb, hon⟩ | h
    · exact absurd hon (hno _ (Array.getElem_mem hn) hb)
    · exact h

theorem any_region {s s' : (St m)} (hB : okRegion mv pu ta ops = true) (h : stepsK P D nt mv pu ta ops ops.toList 0 s some = some s') :
    anyA P D nt mv pu ta ops (· = s') ops.size (Array.replicate ops.size false) s := by
  have := any_lex (P := P) (D := D) (nt := nt) (mv := mv) (pu := pu) ops.toList 0 (Array.replicate ops.size false) s s' (by simp) (by simpa [okRegion] using hB) h
  simpa using this
end
end Go.Vs
