/- A region of the shadow runner is sound, in whatever order the machine takes its operations. -/
import Derived.Test.YtdnbagcbdagofaaVVsAll
namespace Go.Vs
variable {m : Bool}
variable {P : Program} {N : Env}

theorem effO_boxes {D : (Oracle m)} {nt : Nat} {mv pu ta : Bool} {o : Oper} {ρ : Operand → (SV m)} {bs : (Boxes m)} {e : (Eff m)} (h : effO P D nt mv pu ta o ρ bs = some e) : (e.boxes.getD bs).length = bs.length := by
  have val : ∀ (v : Option (SV m)), v.map (fun v => (⟨dstE o.dst v, none⟩ : (Eff m))) = some e → (e.boxes.getD bs).length = bs.length := by
    intro v hv
    rw [Option.map_eq_some_iff] at hv
    obtain ⟨_, _, rfl⟩ := hv
    rfl
  cases hop : o.op
  case move x => simp only [effO, hop] at h; split at h <;> (simp only [Option.some.injEq] at h; subst h; rfl)
  case assign x => simp only [effO, hop] at h; split at h <;> (simp only [Option.some.injEq] at h; subst h; rfl)
  case pick c x y =>
    simp only [effO, hop] at h
    obtain ⟨b, _, h⟩ := onBool_eq h
    rw [branch_eq] at h
    cases b <;> simp at h <;> subst h <;> rfl
  case box t x =>
    simp only [effO, hop] at h
    split at h
    · split at h
      · obtain ⟨_, h⟩ := guarded_eq h
        simp only [Option.some.injEq] at h; subst h; simp
      · simp at h
    · simp at h
  case alloc t =>
    simp only [effO, hop] at h
    split at h
    · split at h
      · obtain ⟨_, h⟩ := guarded_eq h
        rw [Option.map_eq_some_iff] at h
        obtain ⟨_, _, rfl⟩ := h
        simp
      · simp at h
    · simp at h
  case build t ps => exact val _ (by simpa only [effO, hop] using h)
  case buildSlice t n ps => exact val _ (by simpa only [effO, hop] using h)
  case load t x =>
    simp only [effO, hop] at h
    split at h
    · exact val _ h
    · rw [Option.bind_eq_some_iff] at h
      obtain ⟨cs, _, h⟩ := h
      split at h
      · rw [Option.bind_eq_some_iff] at h
        obtain ⟨n, _, h⟩ := h
        split at h
        · rw [Option.map_eq_some_iff] at h
          obtain ⟨_, _, rfl⟩ := h
          rfl
        · simp at h
      · rw [Option.map_eq_some_iff] at h
        obtain ⟨c, _, h⟩ := h
        split at h <;> subst h <;> simp
    · simp at h
  case makeSlice t x y =>
    simp only [effO, hop] at h
    split at h
    · split at h
      · obtain ⟨_, h⟩ := guarded_eq h
        rw [Option.map_eq_some_iff] at h
        obtain ⟨_, _, rfl⟩ := h
        simp
      · simp at h
    · simp at h
  case store t x y =>
    simp only [effO, hop] at h
    split at h
    · split at h
      · exact val _ h
      · simp at h
    · rw [Option.bind_eq_some_iff] at h
      obtain ⟨cs, _, h⟩ := h
      rw [Option.bind_eq_some_iff] at h
      obtain ⟨n, _, h⟩ := h
      obtain ⟨_, h⟩ := guarded_eq h
      split at h
      · simp only [Option.some.injEq] at h; subst h; simp
      · simp at h
    · simp at h
  case nilCheck x =>
    simp only [effO, hop] at h
    split at h
    · exact val (some _) h
    · exact val (some _) h
    · simp at h
  case binOp op t x y p => exact val _ (by simpa only [effO, hop] using h)
  case unOp op p x => exact val _ (by simpa only [effO, hop] using h)
  case convert src dst x => exact val _ (by simpa only [effO, hop] using h)
  case makeFunc fn first caps =>
    simp only [effO, hop] at h
    split at h
    · split at h
      · obtain ⟨_, h⟩ := guarded_eq h
        exact val (some _) h
      · simp at h
    · simp at h
  case slice t x lo hi mx =>
    simp only [effO, hop] at h
    split at h
    · rw [Option.bind_eq_some_iff] at h
      obtain ⟨_, _, h⟩ := h
      rw [Option.bind_eq_some_iff] at h
      obtain ⟨_, _, h⟩ := h
      exact val _ h
    · simp at h
  case fieldAddr t x f => exact val _ (by simpa only [effO, hop] using h)
  case field t x f =>
    simp only [effO, hop] at h
    split at h
    · rw [Option.bind_eq_some_iff] at h
      obtain ⟨_, _, h⟩ := h
      exact val _ h
    · simp at h
  case indexAddr t x i => exact val _ (by simpa only [effO, hop] using h)
  case index t x i => exact val _ (by simpa only [effO, hop] using h)
  case extract x i =>
    simp only [effO, hop] at h
    split at h
    · rw [Option.bind_eq_some_iff] at h
      obtain ⟨_, _, h⟩ := h
      exact val (some _) h
    · simp at h
  case call c =>
    cases hc : c.callee with
    | invoke r m => simp only [effO, hop, hc] at h; simp at h
    | builtin b =>
      simp only [effO, hop, hc] at h
      split at h
      · rw [Option.map_eq_some_iff] at h
        obtain ⟨_, _, rfl⟩ := h
        rfl
      · exact val _ h
      · exact val _ h
      · exact val _ h
      · simp at h
    | value g =>
      simp only [effO, hop, hc] at h
      split at h
      · obtain ⟨_, h⟩ := guarded_eq h
        rw [Option.map_eq_some_iff] at h
        obtain ⟨q, hq, rfl⟩ := h
        obtain ⟨_, cs, r, _, _, _, _, h2⟩ := callE_eq hq
        simp only
        rw [h2, putBoxes_length]
      · simp at h
  all_goals (simp only [effO, hop] at h; simp at h)

section
variable {D : (Oracle m)} {ops : Array Oper} {nt : Nat} {mv pu ta : Nat → Bool}

theorem stepE_boxes {mq p qa : Bool} {o : Oper} {s : (St m)} {e : (Eff m)} (h : stepE P D nt mq p qa ops o s = some e) : (e.app s).boxes.length = s.boxes.length := by
  unfold stepE at h
  split at h
  · exact effO_boxes h
  · split at h
    · unfold onGuard at h
      split at h
      · rw [branch_eq] at h
        split at h
        · exact effO_boxes h
        · simp only [Option.some.injEq] at h; subst h; rfl
      · simp only [Option.some.injEq] at h; subst h; rfl
      · simp at h
    · simp at h

theorem Step.trans {s1 s2 : (St m)} {a0 a1 a2 : Act} {w0 w1 w2 : World} {F0 : Fr} {O0 : Own} {b0 : Nat → Nat} (h : Step P N nt s1 a0 w0 F0 O0 b0 a1 w1)
    (k : ∀ F1 O1 b1, Inv P s1 a1.tmps w1 F1 N O1 b1 → Step P N nt s2 a1 w1 F1 O1 b1 a2 w2) : Step P N nt s2 a0 w0 F0 O0 b0 a2 w2 := by
  obtain ⟨F1, O1, b1, h1, h2, h3, h4⟩ := h
  obtain ⟨F2, O2, b2, k1, k2, k3, k4⟩ := k F1 O1 b1 h1
  exact ⟨F2, O2, b2, k1, h2.trans k2, fun b hb => (k3 b hb).trans (h3 b hb), k4.trans h4⟩
theorem Step.inv {s1 : (St m)} {a0 a1 : Act} {w0 w1 : World} {F0 : Fr} {O0 : Own} {b0 : Nat → Nat} (h : Step P N nt s1 a0 w0 F0 O0 b0 a1 w1) : ∃ F1 O1 b1, Inv P s1 a1.tmps w1 F1 N O1 b1 ∧
    (∀ (s2 : (St m)) (a2 : Act) (w2 : World), Step P N nt s2 a1 w1 F1 O1 b1 a2 w2 → Step P N nt s2 a0 w0 F0 O0 b0 a2 w2) := by
  obtain ⟨F1, O1, b1, h1, h2, h3, h4⟩ := h
  refine ⟨F1, O1, b1, h1, fun s2 a2 w2 => ?_⟩
  rintro ⟨F2, O2, b2, k1, k2, k3, k4⟩
  exact ⟨F2, O2, b2, k1, h2.trans k2, fun b hb => (k3 b hb).trans (h3 b hb), k4.trans h4⟩
theorem Step.refl {s : (St m)} {a : Act} {w : World} {F : Fr} {O : Own} {b : Nat → Nat} (h : Inv P s a.tmps w F N O b) : Step P N nt s a w F O b a w := ⟨F, O, b, h, Far.refl _ _ _, fun _ _ => rfl, rfl⟩

theorem yielded_bool {s : (St m)} {a : Act} {w : World} {F : Fr} {Ow : Own} {bm : Nat → Nat} (h : Inv P s a.tmps w F N Ow bm) {j : Nat} {t : Tmp} (hj : (ops[j]?).bind (·.dst) = some t) {b : Bool} (hb : s.tmps.getD t .any = .leaf (.bool b)) :
    yielded ops a.tmps j = some b := by
  have hs := h.slot t
  rw [hb] at hs
  have hv := repL_bool (hs.leafOf _ rfl)
  unfold yielded
  rw [hj]
  simp only [Option.bind_some]
  rcases Nat.lt_or_ge t a.tmps.size with hl | hl
  · rw [Array.getElem?_eq_getElem hl]
    have : a.tmps[t] = .bool b := by simpa [Array.getD, hl] using hv
    rw [this]
  · simp [Array.getD, Nat.not_lt.2 hl, undef] at hv
theorem yielded_skip {s : (St m)} {a : Act} {w : World} {F : Fr} {Ow : Own} {bm : Nat → Nat} (h : Inv P s a.tmps w F N Ow bm) {j : Nat} {t : Tmp} (hj : (ops[j]?).bind (·.dst) = some t) (hb : s.tmps.getD t .any = .skip) :
    yielded ops a.tmps j = none := by
  have hs := h.slot t
  rw [hb] at hs
  have hv : a.tmps.getD t undef = undef := by simpa only [RepS, RepF] using hs
  unfold yielded
  rw [hj]
  simp only [Option.bind_some]
  rcases Nat.lt_or_ge t a.tmps.size with hl | hl
  · rw [Array.getElem?_eq_getElem hl]
    have : a.tmps[t] = undef := by simpa [Array.getD, hl] using hv
    rw [this]
    rfl
  · rw [Array.getElem?_eq_none hl]

theorem step_sound (hD : DSound P D) {s : (St m)} {a : Act} {w : World} {F : Fr} {Ow : Own} {bm : Nat → Nat} (h : Inv P s a.tmps w F N Ow bm) (hnt : nt ≤ s.boxes.length) {i : Nat} {o : Oper} (ho : ops[i]? = some o) {mq p qa : Bool} {e : (Eff m)}
    (he : stepE P D nt mq p qa ops o s = some e) {K : Act → World → Prop} {Q : Exit → Act → World → Prop} (hk : ∀ a' w', Step P N nt (e.app s) a w F Ow bm a' w' → K a' w') : wpOp P ops Q i K a w := by
  unfold wpOp
  rw [ho]
  simp only
  have run : effO P D nt mq p qa o s.eval s.boxes = some e → Region.wanted o (yielded ops a.tmps) = true →
      if Region.wanted o (yielded ops a.tmps) = true then o.wp P a w K Q ∨ (o.asks P a w ∧ LetsOut Q) else K (a.put o.dst undef) w := by
    intro he hw
    rw [if_pos hw]
    exact .inl (eff_sound hD h hnt he hk)
  have pass : (⟨dstE o.dst .skip, none⟩ : (Eff m)) = e → Region.wanted o (yielded ops a.tmps) = false →
      if Region.wanted o (yielded ops a.tmps) = true then o.wp P a w K Q ∨ (o.asks P a w ∧ LetsOut Q) else K (a.put o.dst undef) w := by
    rintro rfl hw
    rw [if_neg (by rw [hw]; simp)]
    refine hk _ _ ⟨F, Ow, bm, ?_, Far.refl _ _ _, fun _ _ => rfl, put_defers _ _⟩
    rw [app_put]
    exact Inv.put (a := a) h fun d _ => by simp only [RepS, RepF]
  unfold stepE at he
  split at he
  · rename_i hg
    exact run he (by simp [Region.wanted, hg])
  · rename_i j want hg
    split at he
    · rename_i t ht
      unfold onGuard at he
      split at he
      · rename_i b hb
        have hy := yielded_bool h ht hb
        rw [branch_eq] at he
        split at he
        · rename_i hbw
          exact run he (by simp [Region.wanted, hg, hy]; simpa using hbw)
        · rename_i hbw
          exact pass (by simpa using he) (by simp [Region.wanted, hg, hy]; simpa using hbw)
      · rename_i hb
        have hy := yielded_skip h ht hb
        exact pass (by simpa using he) (by simp [Region.wanted, hg, hy])
      · simp at he
    · simp at he

theorem any_sound (hD : DSound P D) {s' : (St m)} {Q : Exit → Act → World → Prop} : ∀ (fuel : Nat) (listed : Array Bool) (s : (St m)) (a : Act) (w : World) (F : Fr) (Ow : Own) (bm : Nat → Nat), Inv P s a.tmps w F N Ow bm → nt ≤ s.boxes.length →
    anyA P D nt mv pu ta ops (· = s') fuel listed s → (∀ a' w', Step P N nt s' a w F Ow bm a' w' → Q .normal a' w') → wpAny P .any ops Q fuel listed a w := by
  intro fuel
  induction fuel with
  | zero =>
    intro listed s a w F Ow bm h _ hA hk
    obtain ⟨h1, rfl⟩ := hA
    exact ⟨h1, hk a w (Step.refl h)⟩
  | succ fuel ih =>
    intro listed s a w F Ow bm h hnt hA hk
    refine ⟨fun h0 => ?_, fun i hi => ?_⟩
    · obtain rfl := hA.1 h0
      exact hk a w (Step.refl h)
    · obtain ⟨o, e, ho, he, hrest⟩ := hA.2 i hi
      refine step_sound hD h hnt ho he fun a' w' hst => ?_
      obtain ⟨F1, O1, b1, h1, htr⟩ := hst.inv
      exact ih _ _ a' w' F1 O1 b1 h1 (by rw [stepE_boxes he]; exact hnt) hrest fun a2 w2 h2 => hk a2 w2 (htr _ _ _ h2)

theorem steps_sound (hD : DSound P D) {s' : (St m)} {Q : Exit → Act → World → Prop} : ∀ (l : List Oper) (k : Nat) (s : (St m)) (a : Act) (w : World) (F : Fr) (Ow : Own) (bm : Nat → Nat), (∀ j, l[j]? = ops[k + j]?) → Inv P s a.tmps w F N Ow bm → nt ≤ s.boxes.length →
    stepsK P D nt mv pu ta ops l k s some = some s' → (∀ a' w', Step P N nt s' a w F Ow bm a' w' → Q .normal a' w') → wpOps P ops Q (List.range' k l.length) a w := by
  intro l
  induction l with
  | nil =>
    intro k s a w F Ow bm _ h _ hs hk
    simp only [stepsK, Option.some.injEq] at hs
    subst hs
    exact hk a w (Step.refl h)
  | cons o l ih =>
    intro k s a w F Ow bm hl h hnt hs hk
    have h0 : ops[k]? = some o := by simpa using (hl 0).symm
    simp only [stepsK, stepK_eff] at hs
    obtain ⟨e, he, hrest⟩ := Option.bind_eq_some_iff.1 hs
    rw [List.length_cons, List.range'_succ, wpOps_cons]
    refine step_sound hD h hnt h0 he fun a' w' hst => ?_
    obtain ⟨F1, O1, b1, h1, htr⟩ := hst.inv
    exact ih (k + 1) _ a' w' F1 O1 b1 (fun j => by have := hl (j + 1); simpa [Nat.add_assoc, Nat.add_comm 1 j] using this) h1 (by rw [stepE_boxes he]; exact hnt) hrest fun a2 w2 h2 => hk a2 w2 (htr _ _ _ h2)

theorem stepsK_bind {β : Type} : ∀ (l : List Oper) (i : Nat) (s : (St m)) (k : (St m) → Option β), stepsK P D nt mv pu ta ops l i s k = (stepsK P D nt mv pu ta ops l i s some).bind k
  | [], i, s, k => rfl
  | o :: l, i, s, k => by
    simp only [stepsK, stepK_eff, Option.bind_assoc]
    congr 1
    funext e
    exact stepsK_bind l (i + 1) _ k
theorem stepsK_boxes : ∀ (l : List Oper) (i : Nat) (s s' : (St m)), stepsK P D nt mv pu ta ops l i s some = some s' → s'.boxes.length = s.boxes.length
  | [], i, s, s', h => by simp only [stepsK, Option.some.injEq] at h; subst h; rfl
  | o :: l, i, s, s', h => by
    simp only [stepsK, stepK_eff] at h
    obtain ⟨e, he, hrest⟩ := Option.bind_eq_some_iff.1 h
    rw [stepsK_boxes l (i + 1) _ s' hrest, stepE_boxes he]

theorem drew_inv {s : (St m)} {tmps : Array Value} {w : World} {F : Fr} {Ow : Own} {bm : Nat → Nat} (h : Inv P s tmps w F N Ow bm) : Inv P s tmps { w with drawn := w.drawn + 1 } F N Ow bm ∧ Far N w F Ow { w with drawn := w.drawn + 1 } F Ow := by
  have hk : Keeps N w F { w with drawn := w.drawn + 1 } F := .mk' (fun _ _ _ => rfl) fun _ => Nat.le_refl _
  exact ⟨h.to hk (Nat.le_refl _) (fun _ _ => rfl) (fun g loc hg _ => ⟨rfl, rfl, hg⟩) (fun g hg => h.new g hg) h.zow, ⟨rfl, rfl, rfl, Nat.le_refl _, hk, fun g _ hg => ⟨fun _ => rfl, rfl, hg⟩⟩⟩

theorem region_sound (hP : P.follows .mixedOrders = true) (hD : DSound P D) {s s' : (St m)} {a : Act} {w : World} {F : Fr} {Ow : Own} {bm : Nat → Nat} {id : Nat} {draw : Bool} (h : Inv P s a.tmps w F N Ow bm) (hnt : nt ≤ s.boxes.length)
    (hd : draw = true → okRegion mv pu ta ops = true) (hs : stepsK P D nt mv pu ta ops ops.toList 0 s some = some s') {Q : Exit → Act → World → Prop} (hk : ∀ a' w', Step P N nt s' a w F Ow bm a' w' → Q .normal a' w') : (Code.region id ops draw).wp P Q a w := by
  cases draw with
  | false =>
    refine wp_region ?_
    have := steps_sound (mv := mv) (pu := pu) (Q := Q) hD ops.toList 0 s a w F Ow bm (fun j => by simp) h hnt hs hk
    rwa [← List.range_eq_range', Array.length_toList] at this
  | true =>
    obtain ⟨h1, h2⟩ := drew_inv h
    refine wp_region_any hP ?_
    refine any_sound hD ops.size _ s a _ F Ow bm h1 hnt (any_region (hd rfl) hs) fun a' w' hst => hk a' w' ?_
    obtain ⟨F1, O1, b1, k1, k2, k3, k4⟩ := hst
    exact ⟨F1, O1, b1, k1, h2.trans k2, k3, k4⟩
end
end Go.Vs
