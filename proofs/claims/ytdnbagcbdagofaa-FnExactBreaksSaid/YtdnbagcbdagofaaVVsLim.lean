/- However deep the calls go and however many rounds the loops take: what the shadow runner tells with enough of both. -/
import Derived.Test.YtdnbagcbdagofaaVVsMain
set_option linter.unusedVariables false
set_option linter.unusedSimpArgs false
namespace Go.Vs
variable {m : Bool}
variable {P : Program}

/-- What is told stays told. -/
def DLe (D D' : (Oracle m)) : Prop := ∀ f a b r, D f a b = some r → D' f a b = some r

theorem effO_D {D D' : (Oracle m)} {nt : Nat} {mv pu ta : Bool} {o : Oper} {ρ : Operand → (SV m)} {bs : (Boxes m)} (h : ∀ c g, o.op = .call c → c.callee ≠ .value g) : effO P D nt mv pu ta o ρ bs = effO P D' nt mv pu ta o ρ bs := by
  cases hop : o.op
  case call c =>
    cases hc : c.callee with
    | value g => exact absurd hc (h c g hop)
    | builtin b => simp only [effO, hop, hc]
    | invoke r m => simp only [effO, hop, hc]
  all_goals simp only [effO, hop]

theorem callE_to {D D' : (Oracle m)} {bs : (Boxes m)} {pu : Bool} {f : FuncId} {args : List (SV m)} {q : (SV m) × Option (Boxes m)} (h : callE D bs pu f args = some q) (hD : ∀ g a b r, D g a b = some r → D' g a b = some r) : callE D' bs pu f args = some q := by
  unfold callE at h ⊢
  obtain ⟨h1, h2⟩ := guarded_eq h
  rw [h1]
  simp only [guarded]
  split at h2
  · rename_i hp
    rw [if_pos hp]
    split at h2
    · rename_i hi
      rw [if_pos hi]
      rw [Option.map_eq_some_iff] at h2 ⊢
      obtain ⟨r, hr, he⟩ := h2
      exact ⟨r, hD _ _ _ _ hr, he⟩
    · simp at h2
  · rename_i hp
    rw [if_neg hp]
    rw [Option.bind_eq_some_iff] at h2 ⊢
    obtain ⟨cs, hcs, h3⟩ := h2
    refine ⟨cs, hcs, ?_⟩
    obtain ⟨h4, h5⟩ := guarded_eq h3
    rw [h4]
    simp only
    rw [Option.map_eq_some_iff] at h5 ⊢
    obtain ⟨r, hr, he⟩ := h5
    exact ⟨r, hD _ _ _ _ hr, he⟩
/-- A call asks once. -/
theorem callE_once {D : (Oracle m)} {bs : (Boxes m)} {pu : Bool} {f : FuncId} {args : List (SV m)} {q : (SV m) × Option (Boxes m)} (h : callE D bs pu f args = some q) : ∃ a b r, D f a b = some r ∧ ∀ D' : (Oracle m), D' f a b = some r → callE D' bs pu f args = some q := by
  unfold callE at h
  obtain ⟨h1, h2⟩ := guarded_eq h
  split at h2
  · rename_i hp
    split at h2
    · rename_i hi
      rw [Option.map_eq_some_iff] at h2
      obtain ⟨r, hr, he⟩ := h2
      refine ⟨args, [], r, hr, fun D' hd => ?_⟩
      unfold callE
      rw [h1]
      simp only [guarded, if_pos hp, if_pos hi, hd, Option.map_some, he]
    · simp at h2
  · rename_i hp
    rw [Option.bind_eq_some_iff] at h2
    obtain ⟨cs, hcs, h3⟩ := h2
    obtain ⟨h4, h5⟩ := guarded_eq h3
    rw [Option.map_eq_some_iff] at h5
    obtain ⟨r, hr, he⟩ := h5
    refine ⟨_, cs, r, hr, fun D' hd => ?_⟩
    unfold callE
    rw [h1]
    simp only [guarded, if_neg hp, hcs, Option.bind_some, h4, hd, Option.map_some, he]

theorem effO_once {D : (Oracle m)} {nt : Nat} {mv pu ta : Bool} {o : Oper} {ρ : Operand → (SV m)} {bs : (Boxes m)} {e : (Eff m)} (h : effO P D nt mv pu ta o ρ bs = some e) :
    (∀ D', effO P D' nt mv pu ta o ρ bs = some e) ∨ ∃ f a b r, D f a b = some r ∧ ∀ D' : (Oracle m), D' f a b = some r → effO P D' nt mv pu ta o ρ bs = some e := by
  by_cases hv : ∀ c g, o.op = .call c → c.callee ≠ .value g
  · exact .inl fun D' => by rw [← effO_D (D := D) hv]; exact h
  · right
    have : ∃ c g, o.op = .call c ∧ c.callee = .value g := by
      refine Classical.byContradiction fun hn => hv fun c g hop hc => hn ⟨c, g, hop, hc⟩
    obtain ⟨c, g, hop, hc⟩ := this
    simp only [effO, hop, hc] at h ⊢
    split at h
    · rename_i f caps hge
      obtain ⟨h1, h2⟩ := guarded_eq h
      rw [Option.map_eq_some_iff] at h2
      obtain ⟨q, hq, he⟩ := h2
      obtain ⟨a, b, r, hr, hall⟩ := callE_once hq
      refine ⟨f, a, b, r, hr, fun D' hd => ?_⟩
      simp only [h1, guarded, hall D' hd, Option.map_some, he]
    · simp at h

section
variable {nt : Nat} {mv pu ta : Nat → Bool} {ops : Array Oper}
theorem stepE_once {D : (Oracle m)} {mq p qa : Bool} {o : Oper} {s : (St m)} {e : (Eff m)} (h : stepE P D nt mq p qa ops o s = some e) :
    (∀ D', stepE P D' nt mq p qa ops o s = some e) ∨ ∃ f a b r, D f a b = some r ∧ ∀ D' : (Oracle m), D' f a b = some r → stepE P D' nt mq p qa ops o s = some e := by
  unfold stepE at h ⊢
  split at h
  · exact effO_once h
  · rename_i j want hg
    split at h
    · rename_i t ht
      unfold onGuard at h ⊢
      split at h
      · rename_i b hb
        rw [branch_eq] at h
        split at h
        · rename_i hbw
          simp only [branch_eq, hbw, if_true]
          exact effO_once h
        · rename_i hbw
          simp only [branch_eq, hbw]
          exact .inl fun _ => h
      · exact .inl fun _ => h
      · simp at h
    · simp at h

/-- From what is told at some depth to what is told at a greater one. -/
structure Chain (Dn : Nat → (Oracle m)) (D : (Oracle m)) : Prop where
  mono : ∀ n m, n ≤ m → DLe (Dn n) (Dn m)
  lim : ∀ f a b r, D f a b = some r → ∃ n, Dn n f a b = some r

theorem stepsK_lim {Dn : Nat → (Oracle m)} {D : (Oracle m)} (hC : Chain Dn D) : ∀ (l : List Oper) (i : Nat) (s s' : (St m)), stepsK P D nt mv pu ta ops l i s some = some s' → ∃ n, ∀ m, n ≤ m → stepsK P (Dn m) nt mv pu ta ops l i s some = some s'
  | [], i, s, s', h => ⟨0, fun _ _ => h⟩
  | o :: l, i, s, s', h => by
    simp only [stepsK, stepK_eff] at h
    obtain ⟨e, he, hrest⟩ := Option.bind_eq_some_iff.1 h
    obtain ⟨n2, h2⟩ := stepsK_lim hC l (i + 1) _ s' hrest
    have h1 : ∃ n, ∀ m, n ≤ m → stepE P (Dn m) nt (mv i) (pu i) (ta i) ops o s = some e := by
      rcases stepE_once he with hx | ⟨f, a, b, r, hr, hx⟩
      · exact ⟨0, fun m _ => hx _⟩
      · obtain ⟨n, hn⟩ := hC.lim f a b r hr
        exact ⟨n, fun m hm => hx _ (hC.mono n m hm _ _ _ _ hn)⟩
    obtain ⟨n1, h1⟩ := h1
    refine ⟨max n1 n2, fun m hm => ?_⟩
    simp only [stepsK, stepK_eff]
    rw [h1 m (by omega), Option.bind_some]
    exact h2 m (by omega)
end

theorem codeK_bind {D : (Oracle m)} {H : Hints} {loop : ((St m) → Option (Out m)) → ((St m) → Option (St m)) → (St m) → Option (Out m)} : ∀ (c : Code) (blk : Nat) {β : Type} (k : (Out m) → Option β) (s : (St m)), codeK P D H loop blk c s k = (codeK P D H loop blk c s some).bind k := by
  intro c
  induction c with
  | skip => intro blk β k s; rfl
  | region id ops draw =>
    intro blk β k s
    simp only [codeK]
    cases hb : (!draw || okRegion (H.mv id) (H.pure id) (H.take id) ops) with
    | false => rfl
    | true =>
      simp only [guarded]
      rw [stepsK_bind, stepsK_bind (k := fun s' => some (Out.norm (s'.tidy (H.after id) (H.afterB id)))), Option.bind_assoc]
      rfl
  | seq c1 c2 ih1 ih2 =>
    intro blk β k s
    simp only [codeK]
    refine (ih1 blk _ s).trans (Eq.trans ?_ (congrArg (fun x => Option.bind x k) (ih1 blk _ s).symm))
    rw [Option.bind_assoc]
    congr 1
    funext o
    cases o with
    | norm s' => exact ih2 blk k s'
    | exit id s' => rfl
    | ret s' => rfl
  | cond x c1 c2 ih1 ih2 =>
    intro blk β k s
    simp only [codeK]
    unfold onBool
    split
    · rename_i b _
      cases b
      · exact ih2 blk k _
      · exact ih1 blk k _
    · rfl
  | block id c ih =>
    intro blk β k s
    simp only [codeK]
    refine (ih id _ s).trans (Eq.trans ?_ (congrArg (fun x => Option.bind x k) (ih id _ s).symm))
    rw [Option.bind_assoc]
    congr 1
    funext o
    cases o with
    | norm s' => rfl
    | exit id' s' => simp only [blockK, Option.bind_some]; split <;> rfl
    | ret s' => rfl
  | loop c ih =>
    intro blk β k s
    simp only [codeK, Option.bind_some]
    cases loop (fun s => codeK P D H loop blk c s some) (fun s => s.again (H.clear blk) (H.drop blk)) s <;> rfl
  | exit id => intro blk β k s; rfl
  | ret => intro blk β k s; rfl
  | _ => intro blk β k s; rfl

theorem rounds_mono {body body' : (St m) → Option (Out m)} {again : (St m) → Option (St m)} (hb : ∀ s o, body s = some o → body' s = some o) : ∀ (n m : Nat), n ≤ m → ∀ s o, rounds body again n s = some o → rounds body' again m s = some o
  | 0, _, _, s, o, h => by simp [rounds] at h
  | n + 1, 0, hm, _, _, _ => by omega
  | n + 1, m + 1, hm, s, o, h => by
    simp only [rounds] at h ⊢
    rw [Option.bind_eq_some_iff] at h
    obtain ⟨s2, ha, h⟩ := h
    rw [Option.bind_eq_some_iff] at h
    obtain ⟨o2, h2, h⟩ := h
    rw [ha, Option.bind_some, hb _ _ h2, Option.bind_some]
    cases o2 with
    | norm s' => exact rounds_mono hb n m (by omega) s' o h
    | exit id s' => exact h
    | ret s' => exact h

/-- With as many rounds as it takes. -/
noncomputable def limR : ((St m) → Option (Out m)) → ((St m) → Option (St m)) → (St m) → Option (Out m) := fun body again s =>
  open Classical in if h : ∃ n o, rounds body again n s = some o then some (Classical.choose (Classical.choose_spec h)) else none
theorem limR_iff {body : (St m) → Option (Out m)} {again : (St m) → Option (St m)} {s : (St m)} {o : (Out m)} : limR body again s = some o ↔ ∃ n, rounds body again n s = some o := by
  unfold limR
  constructor
  · intro h
    split at h
    · rename_i hx
      simp only [Option.some.injEq] at h
      subst h
      exact ⟨_, Classical.choose_spec (Classical.choose_spec hx)⟩
    · simp at h
  · rintro ⟨n, hn⟩
    have hx : ∃ n o, rounds body again n s = some o := ⟨n, o, hn⟩
    rw [dif_pos hx]
    have h1 := Classical.choose_spec (Classical.choose_spec hx)
    have h2 := rounds_mono (body := body) (again := again) (fun _ _ h => h) _ (max n (Classical.choose hx)) (Nat.le_max_right _ _) s _ h1
    have h3 := rounds_mono (body := body) (again := again) (fun _ _ h => h) n (max n (Classical.choose hx)) (Nat.le_max_left _ _) s _ hn
    rw [h2] at h3
    exact h3
/-- A loop, one round opened. -/
theorem limR_open (body : (St m) → Option (Out m)) (again : (St m) → Option (St m)) (s : (St m)) : limR body again s = (again s).bind fun s => (body s).bind fun | .norm s' => limR body again s' | o => some o := by
  apply Option.ext
  intro o
  rw [limR_iff]
  constructor
  · rintro ⟨n, hn⟩
    cases n with
    | zero => simp [rounds] at hn
    | succ n =>
      simp only [rounds] at hn
      rw [Option.bind_eq_some_iff] at hn ⊢
      obtain ⟨s2, ha, h⟩ := hn
      refine ⟨s2, ha, ?_⟩
      rw [Option.bind_eq_some_iff] at h ⊢
      obtain ⟨o2, h2, h⟩ := h
      refine ⟨o2, h2, ?_⟩
      cases o2 with
      | norm s' => exact limR_iff.2 ⟨n, h⟩
      | exit id s' => exact h
      | ret s' => exact h
  · intro h
    rw [Option.bind_eq_some_iff] at h
    obtain ⟨s2, ha, h⟩ := h
    rw [Option.bind_eq_some_iff] at h
    obtain ⟨o2, h2, h⟩ := h
    cases o2 with
    | norm s' =>
      obtain ⟨n, hn⟩ := limR_iff.1 h
      exact ⟨n + 1, by simp only [rounds]; rw [ha, Option.bind_some, h2, Option.bind_some]; exact hn⟩
    | exit id s' => exact ⟨1, by simp only [rounds]; rw [ha, Option.bind_some, h2, Option.bind_some]; exact h⟩
    | ret s' => exact ⟨1, by simp only [rounds]; rw [ha, Option.bind_some, h2, Option.bind_some]; exact h⟩

theorem codeK_lim {Dn : Nat → (Oracle m)} {D : (Oracle m)} (hC : Chain Dn D) {H : Hints} : ∀ (c : Code) (blk : Nat) (s : (St m)) (o : (Out m)), codeK P D H limR blk c s some = some o → ∃ n, ∀ m, n ≤ m → codeK P (Dn m) H (loopN m) blk c s some = some o := by
  intro c
  induction c with
  | skip => intro blk s o h; exact ⟨0, fun _ _ => h⟩
  | region id ops draw =>
    intro blk s o h
    simp only [codeK] at h ⊢
    obtain ⟨hg, h⟩ := guarded_eq h
    rw [stepsK_bind, Option.bind_eq_some_iff] at h
    obtain ⟨s', hs, ho⟩ := h
    obtain ⟨n, hn⟩ := stepsK_lim hC _ _ _ _ hs
    refine ⟨n, fun m hm => ?_⟩
    rw [hg]
    simp only [guarded]
    rw [stepsK_bind, hn m hm, Option.bind_some]
    exact ho
  | seq c1 c2 ih1 ih2 =>
    intro blk s o h
    simp only [codeK] at h ⊢
    rw [codeK_bind, Option.bind_eq_some_iff] at h
    obtain ⟨o1, h1, h2⟩ := h
    obtain ⟨n1, hn1⟩ := ih1 blk s o1 h1
    cases o1 with
    | norm s' =>
      obtain ⟨n2, hn2⟩ := ih2 blk s' o h2
      refine ⟨max n1 n2, fun m hm => ?_⟩
      rw [codeK_bind, hn1 m (by omega), Option.bind_some]
      exact hn2 m (by omega)
    | exit id s' => exact ⟨n1, fun m hm => by rw [codeK_bind, hn1 m hm, Option.bind_some]; exact h2⟩
    | ret s' => exact ⟨n1, fun m hm => by rw [codeK_bind, hn1 m hm, Option.bind_some]; exact h2⟩
  | cond x c1 c2 ih1 ih2 =>
    intro blk s o h
    simp only [codeK] at h ⊢
    obtain ⟨b, hb, h⟩ := onBool_eq h
    rw [hb]
    simp only [onBool]
    cases b
    · exact ih2 blk _ o h
    · exact ih1 blk _ o h
  | block id c ih =>
    intro blk s o h
    simp only [codeK] at h ⊢
    rw [codeK_bind, Option.bind_eq_some_iff] at h
    obtain ⟨o1, h1, h2⟩ := h
    obtain ⟨n1, hn1⟩ := ih id s o1 h1
    exact ⟨n1, fun m hm => by rw [codeK_bind, hn1 m hm, Option.bind_some]; exact h2⟩
  | loop c ih =>
    intro blk s o h
    simp only [codeK, Option.bind_some] at h ⊢
    rw [Option.bind_eq_some_iff] at h
    obtain ⟨o1, h1, h2⟩ := h
    simp only [Option.some.injEq] at h2
    subst h2
    obtain ⟨n, hn⟩ := limR_iff.1 h1
    have key : ∀ (n : Nat) (s : (St m)), rounds (fun s => codeK P D H limR blk c s some) (fun s => s.again (H.clear blk) (H.drop blk)) n s = some o1 → ∃ n1, ∀ m, n1 ≤ m → rounds (fun s => codeK P (Dn m) H (loopN m) blk c s some) (fun s => s.again (H.clear blk) (H.drop blk)) n s = some o1 := by
      intro n
      induction n with
      | zero => intro s h; simp [rounds] at h
      | succ n ihn =>
        intro s h
        simp only [rounds] at h ⊢
        rw [Option.bind_eq_some_iff] at h
        obtain ⟨s2, ha, h⟩ := h
        rw [Option.bind_eq_some_iff] at h
        obtain ⟨o2, h2, h⟩ := h
        obtain ⟨n1, hn1⟩ := ih blk s2 o2 h2
        cases o2 with
        | norm s' =>
          obtain ⟨n2, hn2⟩ := ihn s' h
          exact ⟨max n1 n2, fun m hm => by rw [ha, Option.bind_some, hn1 m (by omega), Option.bind_some]; exact hn2 m (by omega)⟩
        | exit id s' => exact ⟨n1, fun m hm => by rw [ha, Option.bind_some, hn1 m hm, Option.bind_some]; exact h⟩
        | ret s' => exact ⟨n1, fun m hm => by rw [ha, Option.bind_some, hn1 m hm, Option.bind_some]; exact h⟩
    obtain ⟨n1, hn1⟩ := key n s hn
    refine ⟨max n n1, fun m hm => ?_⟩
    have h3 := hn1 m (by omega)
    have h4 := rounds_mono (fun _ _ h => h) n m (by omega) s o1 h3
    show ((loopN m) _ _ s).bind some = some o1
    simp only [loopN]
    rw [h4]
    rfl
  | exit id => intro blk s o h; exact ⟨0, fun _ _ => h⟩
  | ret => intro blk s o h; exact ⟨0, fun _ _ => h⟩
  | _ => intro blk s o h; simp [codeK] at h

theorem stepsK_mono {nt : Nat} {mv pu ta : Nat → Bool} {ops : Array Oper} {D D' : (Oracle m)} (hD : DLe D D') (l : List Oper) (i : Nat) (s s' : (St m)) (h : stepsK P D nt mv pu ta ops l i s some = some s') : stepsK P D' nt mv pu ta ops l i s some = some s' := by
  obtain ⟨n, hn⟩ := stepsK_lim (Dn := fun _ => D') (D := D) ⟨fun _ _ _ _ _ _ _ h => h, fun f a b r h => ⟨0, hD f a b r h⟩⟩ l i s s' h
  exact hn n (Nat.le_refl _)

theorem codeK_mono {D D' : (Oracle m)} (hD : DLe D D') {H : Hints} {n n' : Nat} (hn : n ≤ n') : ∀ (c : Code) (blk : Nat) (s : (St m)) (o : (Out m)), codeK P D H (loopN n) blk c s some = some o → codeK P D' H (loopN n') blk c s some = some o := by
  intro c
  induction c with
  | skip => intro blk s o h; exact h
  | region id ops draw =>
    intro blk s o h
    simp only [codeK] at h ⊢
    obtain ⟨hg, h⟩ := guarded_eq h
    rw [stepsK_bind, Option.bind_eq_some_iff] at h
    obtain ⟨s', hs, ho⟩ := h
    rw [hg]
    simp only [guarded]
    rw [stepsK_bind, stepsK_mono hD _ _ _ _ hs, Option.bind_some]
    exact ho
  | seq c1 c2 ih1 ih2 =>
    intro blk s o h
    simp only [codeK] at h ⊢
    rw [codeK_bind, Option.bind_eq_some_iff] at h
    obtain ⟨o1, h1, h2⟩ := h
    rw [codeK_bind, ih1 blk s o1 h1, Option.bind_some]
    cases o1 with
    | norm s' => exact ih2 blk s' o h2
    | exit id s' => exact h2
    | ret s' => exact h2
  | cond x c1 c2 ih1 ih2 =>
    intro blk s o h
    simp only [codeK] at h ⊢
    obtain ⟨b, hb, h⟩ := onBool_eq h
    rw [hb]
    simp only [onBool]
    cases b
    · exact ih2 blk _ o h
    · exact ih1 blk _ o h
  | block id c ih =>
    intro blk s o h
    simp only [codeK] at h ⊢
    rw [codeK_bind, Option.bind_eq_some_iff] at h
    obtain ⟨o1, h1, h2⟩ := h
    rw [codeK_bind, ih id s o1 h1, Option.bind_some]
    exact h2
  | loop c ih =>
    intro blk s o h
    simp only [codeK] at h ⊢
    rw [Option.bind_eq_some_iff] at h
    obtain ⟨o1, h1, h2⟩ := h
    simp only [loopN] at h1 ⊢
    rw [rounds_mono (fun s o h => ih blk s o h) n n' hn s o1 h1, Option.bind_some]
    exact h2
  | exit id => intro blk s o h; exact h
  | ret => intro blk s o h; exact h
  | _ => intro blk s o h; simp [codeK] at h

theorem callN_mono {T : (Told m)} {H : FuncId → Hints} : ∀ (n m : Nat), n ≤ m → DLe (callN P T H n) (callN P T H m)
  | 0, _, _ => by intro f a b r h; simp [callN] at h
  | n + 1, 0, h => by omega
  | n + 1, m + 1, hm => by
    intro f a b r h
    simp only [callN] at h ⊢
    cases ht : T f with
    | some t => rw [ht] at h; exact h
    | none =>
      rw [ht] at h
      simp only at h ⊢
      unfold runV at h ⊢
      cases hfn : P.funcs[f]? with
      | none => rw [hfn] at h; simp at h
      | some fn =>
        rw [hfn] at h
        simp only at h ⊢
        cases hc : fn.body with
        | none => rw [hc] at h; simp at h
        | some c =>
          rw [hc] at h
          simp only at h ⊢
          rw [codeK_bind, Option.bind_eq_some_iff] at h ⊢
          obtain ⟨o, ho, hk⟩ := h
          exact ⟨o, codeK_mono (callN_mono n m (by omega)) (by omega) c 0 _ o ho, hk⟩

/-- What is told of a call, however deep. -/
noncomputable def den (P : Program) (T : (Told m)) (H : FuncId → Hints) : (Oracle m) := fun f a b =>
  open Classical in if h : ∃ n r, callN P T H n f a b = some r then some (Classical.choose (Classical.choose_spec h)) else none
theorem den_iff {T : (Told m)} {H : FuncId → Hints} {f : FuncId} {a : List (SV m)} {b : List (List (SV m))} {r : (SV m) × List (List (SV m))} : den P T H f a b = some r ↔ ∃ n, callN P T H n f a b = some r := by
  unfold den
  constructor
  · intro h
    split at h
    · rename_i hx
      simp only [Option.some.injEq] at h
      subst h
      exact ⟨_, Classical.choose_spec (Classical.choose_spec hx)⟩
    · simp at h
  · rintro ⟨n, hn⟩
    have hx : ∃ n r, callN P T H n f a b = some r := ⟨n, r, hn⟩
    rw [dif_pos hx]
    have h1 := Classical.choose_spec (Classical.choose_spec hx)
    have h2 := callN_mono _ (max n (Classical.choose hx)) (Nat.le_max_right _ _) _ _ _ _ h1
    have h3 := callN_mono n (max n (Classical.choose hx)) (Nat.le_max_left _ _) _ _ _ _ hn
    rw [h2] at h3
    exact h3
theorem den_sound (hP : P.follows .mixedOrders = true) (hG : P.funcs.all (fun fn => !(fn.name == "runtime.NumGoroutine")) = true) {T : (Told m)} (hT : TSound P T) (H : FuncId → Hints) : DSound P (den P T H) := by
  intro N f a b r h
  obtain ⟨n, hn⟩ := den_iff.1 h
  exact call_sound hP hG hT H n N f a b r hn
/-- A function's text, read with what is told of the others, tells of the function. -/
theorem den_run {T : (Told m)} {H : FuncId → Hints} {f : FuncId} {a : List (SV m)} {b : List (List (SV m))} {r : (SV m) × List (List (SV m))} (hT : T f = none) (h : runV P (den P T H) H limR f a b = some r) : den P T H f a b = some r := by
  refine den_iff.2 ?_
  unfold runV at h
  split at h
  · rename_i fn hfn
    split at h
    · rename_i c hc
      rw [codeK_bind, Option.bind_eq_some_iff] at h
      obtain ⟨o, ho, hk⟩ := h
      obtain ⟨n, hn⟩ := codeK_lim (Dn := callN P T H) ⟨fun n m h => callN_mono n m h, fun f a b r h => den_iff.1 h⟩ c 0 _ o ho
      refine ⟨n + 1, ?_⟩
      simp only [callN, hT]
      unfold runV
      rw [hfn]
      simp only
      rw [hc]
      simp only
      rw [codeK_bind, hn n (Nat.le_refl _)]
      exact hk
    · simp at h
  · simp at h
theorem den_told {T : (Told m)} {H : FuncId → Hints} {f : FuncId} {t : List (SV m) → List (List (SV m)) → Option ((SV m) × List (List (SV m)))} {a : List (SV m)} {b : List (List (SV m))} {r : (SV m) × List (List (SV m))} (hT : T f = some t) (h : t a b = some r) : den P T H f a b = some r :=
  den_iff.2 ⟨1, by simp only [callN, hT]; exact h⟩
end Go.Vs
