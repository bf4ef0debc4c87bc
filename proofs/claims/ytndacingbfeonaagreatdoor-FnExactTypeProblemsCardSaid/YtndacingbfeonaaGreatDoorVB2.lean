/- What the program's functions compute, read off their text by the shadow runner (VsReg, VsCode, VsRun, VsMain, VsLim, VsFast, VsFast2, VsSub, VsLoop); no condition. -/
import Derived.LoopN
import Derived.Test.YtndacingbfeonaaGreatDoorVB1
section
namespace Go.Vs
variable {m : Bool}
variable {P : Program} {N : Env}
theorem aMJ {D : (cA m)} {nt : Nat} {mv pu ta : Bool} {o : Oper} {ρ : Operand → (SV m)} {bs : (gW m)} {e : (Eff m)} (h : dD P D nt mv pu ta o ρ bs = some e) : (e.boxes.getD bs).length = bs.length := by
  have val : ∀ (v : Option (SV m)), v.map (fun v => (⟨sV o.dst v, none⟩ : (Eff m))) = some e → (e.boxes.getD bs).length = bs.length := by
    intro v hv
    rw [Option.map_eq_some_iff] at hv
    obtain ⟨_, _, rfl⟩ := hv
    rfl
  cases hop : o.op
  case move x => simp only [dD, hop] at h; split at h <;> (simp only [Option.some.injEq] at h; subst h; rfl)
  case assign x => simp only [dD, hop] at h; split at h <;> (simp only [Option.some.injEq] at h; subst h; rfl)
  case pick c x y =>
    simp only [dD, hop] at h
    obtain ⟨b, _, h⟩ := uX h
    rw [pC] at h
    cases b <;> simp at h <;> subst h <;> rfl
  case box t x =>
    simp only [dD, hop] at h
    split at h
    · split at h
      · obtain ⟨_, h⟩ := bS h
        simp only [Option.some.injEq] at h; subst h; simp
      · simp at h
    · simp at h
  case alloc t =>
    simp only [dD, hop] at h
    split at h
    · split at h
      · obtain ⟨_, h⟩ := bS h
        rw [Option.map_eq_some_iff] at h
        obtain ⟨_, _, rfl⟩ := h
        simp
      · simp at h
    · simp at h
  case build t ps => exact val _ (by simpa only [dD, hop] using h)
  case buildSlice t n ps => exact val _ (by simpa only [dD, hop] using h)
  case load t x =>
    simp only [dD, hop] at h
    split at h
    · exact val _ h
    · rw [Option.bind_eq_some_iff] at h
      obtain ⟨cs, _, h⟩ := h
      split at h
      · rw [Option.bind_eq_some_iff] at h
        obtain ⟨n, _, h⟩ := h
        split at h
        · rw [Option.map_eq_some_iff] at h
          obtain ⟨_, _, rfl⟩ := h
          rfl
        · simp at h
      · rw [Option.map_eq_some_iff] at h
        obtain ⟨c, _, h⟩ := h
        split at h <;> subst h <;> simp
    · simp at h
  case makeSlice t x y =>
    simp only [dD, hop] at h
    split at h
    · split at h
      · obtain ⟨_, h⟩ := bS h
        rw [Option.map_eq_some_iff] at h
        obtain ⟨_, _, rfl⟩ := h
        simp
      · simp at h
    · simp at h
  case store t x y =>
    simp only [dD, hop] at h
    split at h
    · split at h
      · exact val _ h
      · simp at h
    · rw [Option.bind_eq_some_iff] at h
      obtain ⟨cs, _, h⟩ := h
      rw [Option.bind_eq_some_iff] at h
      obtain ⟨n, _, h⟩ := h
      obtain ⟨_, h⟩ := bS h
      split at h
      · simp only [Option.some.injEq] at h; subst h; simp
      · simp at h
    · simp at h
  case nilCheck x =>
    simp only [dD, hop] at h
    split at h
    · exact val (some _) h
    · exact val (some _) h
    · simp at h
  case binOp op t x y p => exact val _ (by simpa only [dD, hop] using h)
  case unOp op p x => exact val _ (by simpa only [dD, hop] using h)
  case convert src dst x => exact val _ (by simpa only [dD, hop] using h)
  case makeFunc fn first caps =>
    simp only [dD, hop] at h
    split at h
    · split at h
      · obtain ⟨_, h⟩ := bS h
        exact val (some _) h
      · simp at h
    · simp at h
  case slice t x lo hi mx =>
    simp only [dD, hop] at h
    split at h
    · rw [Option.bind_eq_some_iff] at h
      obtain ⟨_, _, h⟩ := h
      rw [Option.bind_eq_some_iff] at h
      obtain ⟨_, _, h⟩ := h
      exact val _ h
    · simp at h
  case fieldAddr t x f => exact val _ (by simpa only [dD, hop] using h)
  case field t x f =>
    simp only [dD, hop] at h
    split at h
    · rw [Option.bind_eq_some_iff] at h
      obtain ⟨_, _, h⟩ := h
      exact val _ h
    · simp at h
  case indexAddr t x i => exact val _ (by simpa only [dD, hop] using h)
  case index t x i => exact val _ (by simpa only [dD, hop] using h)
  case extract x i =>
    simp only [dD, hop] at h
    split at h
    · rw [Option.bind_eq_some_iff] at h
      obtain ⟨_, _, h⟩ := h
      exact val (some _) h
    · simp at h
  case call c =>
    cases hc : c.callee with
    | invoke r m => simp only [dD, hop, hc] at h; simp at h
    | builtin b =>
      simp only [dD, hop, hc] at h
      split at h
      · rw [Option.map_eq_some_iff] at h
        obtain ⟨_, _, rfl⟩ := h
        rfl
      · exact val _ h
      · exact val _ h
      · exact val _ h
      · simp at h
    | value g =>
      simp only [dD, hop, hc] at h
      split at h
      · obtain ⟨_, h⟩ := bS h
        rw [Option.map_eq_some_iff] at h
        obtain ⟨q, hq, rfl⟩ := h
        obtain ⟨_, cs, r, _, _, _, _, h2⟩ := aP0 hq
        simp only
        rw [h2, aDT]
      · simp at h
  all_goals (simp only [dD, hop] at h; simp at h)
section
variable {D : (cA m)} {ops : Array Oper} {nt : Nat} {mv pu ta : Nat → Bool}
theorem aFY {mq p qa : Bool} {o : Oper} {s : (St m)} {e : (Eff m)} (h : nH P D nt mq p qa ops o s = some e) : (e.app s).boxes.length = s.boxes.length := by
  unfold nH at h
  split at h
  · exact aMJ h
  · split at h
    · unfold qL at h
      split at h
      · rw [pC] at h
        split at h
        · exact aMJ h
        · simp only [Option.some.injEq] at h; subst h; rfl
      · simp only [Option.some.injEq] at h; subst h; rfl
      · simp at h
    · simp at h
theorem mG.trans {s1 s2 : (St m)} {a0 a1 a2 : Act} {w0 w1 w2 : World} {F0 : Fr} {O0 : Own} {b0 : Nat → Nat} (h : mG P N nt s1 a0 w0 F0 O0 b0 a1 w1)
    (k : ∀ F1 O1 b1, Inv P s1 a1.tmps w1 F1 N O1 b1 → mG P N nt s2 a1 w1 F1 O1 b1 a2 w2) : mG P N nt s2 a0 w0 F0 O0 b0 a2 w2 := by
  obtain ⟨F1, O1, b1, h1, h2, h3, h4⟩ := h
  obtain ⟨F2, O2, b2, k1, k2, k3, k4⟩ := k F1 O1 b1 h1
  exact ⟨F2, O2, b2, k1, h2.trans k2, fun b hb => (k3 b hb).trans (h3 b hb), k4.trans h4⟩
theorem mG.inv {s1 : (St m)} {a0 a1 : Act} {w0 w1 : World} {F0 : Fr} {O0 : Own} {b0 : Nat → Nat} (h : mG P N nt s1 a0 w0 F0 O0 b0 a1 w1) : ∃ F1 O1 b1, Inv P s1 a1.tmps w1 F1 N O1 b1 ∧
    (∀ (s2 : (St m)) (a2 : Act) (w2 : World), mG P N nt s2 a1 w1 F1 O1 b1 a2 w2 → mG P N nt s2 a0 w0 F0 O0 b0 a2 w2) := by
  obtain ⟨F1, O1, b1, h1, h2, h3, h4⟩ := h
  refine ⟨F1, O1, b1, h1, fun s2 a2 w2 => ?_⟩
  rintro ⟨F2, O2, b2, k1, k2, k3, k4⟩
  exact ⟨F2, O2, b2, k1, h2.trans k2, fun b hb => (k3 b hb).trans (h3 b hb), k4.trans h4⟩
theorem mG.refl {s : (St m)} {a : Act} {w : World} {F : Fr} {O : Own} {b : Nat → Nat} (h : Inv P s a.tmps w F N O b) : mG P N nt s a w F O b a w := ⟨F, O, b, h, Far.refl _ _ _, fun _ _ => rfl, rfl⟩
theorem aO9 {s : (St m)} {a : Act} {w : World} {F : Fr} {Ow : Own} {bm : Nat → Nat} (h : Inv P s a.tmps w F N Ow bm) {j : Nat} {t : Tmp} (hj : (ops[j]?).bind (·.dst) = some t) {b : Bool} (hb : s.tmps.getD t .any = .leaf (.bool b)) :
    yielded ops a.tmps j = some b := by
  have hs := h.slot t
  rw [hb] at hs
  have hv := rZ (hs.leafOf _ rfl)
  unfold yielded
  rw [hj]
  simp only [Option.bind_some]
  rcases Nat.lt_or_ge t a.tmps.size with hl | hl
  · rw [Array.getElem?_eq_getElem hl]
    have : a.tmps[t] = .bool b := by simpa [Array.getD, hl] using hv
    rw [this]
  · simp [Array.getD, Nat.not_lt.2 hl, undef] at hv
theorem aOS {s : (St m)} {a : Act} {w : World} {F : Fr} {Ow : Own} {bm : Nat → Nat} (h : Inv P s a.tmps w F N Ow bm) {j : Nat} {t : Tmp} (hj : (ops[j]?).bind (·.dst) = some t) (hb : s.tmps.getD t .any = .skip) :
    yielded ops a.tmps j = none := by
  have hs := h.slot t
  rw [hb] at hs
  have hv : a.tmps.getD t undef = undef := by simpa only [aZ, eG] using hs
  unfold yielded
  rw [hj]
  simp only [Option.bind_some]
  rcases Nat.lt_or_ge t a.tmps.size with hl | hl
  · rw [Array.getElem?_eq_getElem hl]
    have : a.tmps[t] = undef := by simpa [Array.getD, hl] using hv
    rw [this]
    rfl
  · rw [Array.getElem?_eq_none hl]
theorem aMU (hD : mT P N D) {s : (St m)} {a : Act} {w : World} {F : Fr} {Ow : Own} {bm : Nat → Nat} (h : Inv P s a.tmps w F N Ow bm) (hnt : nt ≤ s.boxes.length) {i : Nat} {o : Oper} (ho : ops[i]? = some o) {mq p qa : Bool} {e : (Eff m)}
    (he : nH P D nt mq p qa ops o s = some e) {K : Act → World → Prop} {Q : Exit → Act → World → Prop} (hk : ∀ a' w', mG P N nt (e.app s) a w F Ow bm a' w' → K a' w') : wpOp P ops Q i K a w := by
  unfold wpOp
  rw [ho]
  simp only
  have run : dD P D nt mq p qa o s.eval s.boxes = some e → Region.wanted o (yielded ops a.tmps) = true →
      if Region.wanted o (yielded ops a.tmps) = true then o.wp P a w K Q ∨ (o.asks P a w ∧ LetsOut Q) else K (a.put o.dst undef) w := by
    intro he hw
    rw [if_pos hw]
    exact .inl (aSh hD h hnt he hk)
  have pass : (⟨sV o.dst .skip, none⟩ : (Eff m)) = e → Region.wanted o (yielded ops a.tmps) = false →
      if Region.wanted o (yielded ops a.tmps) = true then o.wp P a w K Q ∨ (o.asks P a w ∧ LetsOut Q) else K (a.put o.dst undef) w := by
    rintro rfl hw
    rw [if_neg (by rw [hw]; simp)]
    refine hk _ _ ⟨F, Ow, bm, ?_, Far.refl _ _ _, fun _ _ => rfl, jT _ _⟩
    rw [aIs]
    exact Inv.put (a := a) h fun d _ => by simp only [aZ, eG]
  unfold nH at he
  split at he
  · rename_i hg
    exact run he (by simp [Region.wanted, hg])
  · rename_i j want hg
    split at he
    · rename_i t ht
      unfold qL at he
      split at he
      · rename_i b hb
        have hy := aO9 h ht hb
        rw [pC] at he
        split at he
        · rename_i hbw
          exact run he (by simp [Region.wanted, hg, hy]; simpa using hbw)
        · rename_i hbw
          exact pass (by simpa using he) (by simp [Region.wanted, hg, hy]; simpa using hbw)
      · rename_i hb
        have hy := aOS h ht hb
        exact pass (by simpa using he) (by simp [Region.wanted, hg, hy])
      · simp at he
    · simp at he
theorem aRW (hD : mT P N D) {s' : (St m)} {Q : Exit → Act → World → Prop} : ∀ (fuel : Nat) (listed : Array Bool) (s : (St m)) (a : Act) (w : World) (F : Fr) (Ow : Own) (bm : Nat → Nat), Inv P s a.tmps w F N Ow bm → nt ≤ s.boxes.length →
    aRO P D nt mv pu ta ops (· = s') fuel listed s → (∀ a' w', mG P N nt s' a w F Ow bm a' w' → Q .normal a' w') → wpAny P .any ops Q fuel listed a w := by
  intro fuel
  induction fuel with
  | zero =>
    intro listed s a w F Ow bm h _ hA hk
    obtain ⟨h1, rfl⟩ := hA
    exact ⟨h1, hk a w (mG.refl h)⟩
  | succ fuel ih =>
    intro listed s a w F Ow bm h hnt hA hk
    refine ⟨fun h0 => ?_, fun i hi => ?_⟩
    · obtain rfl := hA.1 h0
      exact hk a w (mG.refl h)
    · obtain ⟨o, e, ho, he, hrest⟩ := hA.2 i hi
      refine aMU hD h hnt ho he fun a' w' hst => ?_
      obtain ⟨F1, O1, b1, h1, htr⟩ := hst.inv
      exact ih _ _ a' w' F1 O1 b1 h1 (by rw [aFY he]; exact hnt) hrest fun a2 w2 h2 => hk a2 w2 (htr _ _ _ h2)
theorem aPh (hD : mT P N D) {s' : (St m)} {Q : Exit → Act → World → Prop} : ∀ (l : List Oper) (k : Nat) (s : (St m)) (a : Act) (w : World) (F : Fr) (Ow : Own) (bm : Nat → Nat), (∀ j, l[j]? = ops[k + j]?) → Inv P s a.tmps w F N Ow bm → nt ≤ s.boxes.length →
    lN P D nt mv pu ta ops l k s some = some s' → (∀ a' w', mG P N nt s' a w F Ow bm a' w' → Q .normal a' w') → wpOps P ops Q (List.range' k l.length) a w := by
  intro l
  induction l with
  | nil =>
    intro k s a w F Ow bm _ h _ hs hk
    simp only [lN, Option.some.injEq] at hs
    subst hs
    exact hk a w (mG.refl h)
  | cons o l ih =>
    intro k s a w F Ow bm hl h hnt hs hk
    have h0 : ops[k]? = some o := by simpa using (hl 0).symm
    simp only [lN, aAH] at hs
    obtain ⟨e, he, hrest⟩ := Option.bind_eq_some_iff.1 hs
    rw [List.length_cons, List.range'_succ, wpOps_cons]
    refine aMU hD h hnt h0 he fun a' w' hst => ?_
    obtain ⟨F1, O1, b1, h1, htr⟩ := hst.inv
    exact ih (k + 1) _ a' w' F1 O1 b1 (fun j => by have := hl (j + 1); simpa [Nat.add_assoc, Nat.add_comm 1 j] using this) h1 (by rw [aFY he]; exact hnt) hrest fun a2 w2 h2 => hk a2 w2 (htr _ _ _ h2)
theorem nL {β : Type} : ∀ (l : List Oper) (i : Nat) (s : (St m)) (k : (St m) → Option β), lN P D nt mv pu ta ops l i s k = (lN P D nt mv pu ta ops l i s some).bind k
  | [], i, s, k => rfl
  | o :: l, i, s, k => by
    simp only [lN, aAH, Option.bind_assoc]
    congr 1
    funext e
    exact nL l (i + 1) _ k
theorem aIF : ∀ (l : List Oper) (i : Nat) (s s' : (St m)), lN P D nt mv pu ta ops l i s some = some s' → s'.boxes.length = s.boxes.length
  | [], i, s, s', h => by simp only [lN, Option.some.injEq] at h; subst h; rfl
  | o :: l, i, s, s', h => by
    simp only [lN, aAH] at h
    obtain ⟨e, he, hrest⟩ := Option.bind_eq_some_iff.1 h
    rw [aIF l (i + 1) _ s' hrest, aFY he]
theorem aTv {s : (St m)} {tmps : Array Value} {w : World} {F : Fr} {Ow : Own} {bm : Nat → Nat} (h : Inv P s tmps w F N Ow bm) : Inv P s tmps { w with drawn := w.drawn + 1 } F N Ow bm ∧ Far N w F Ow { w with drawn := w.drawn + 1 } F Ow := by
  have hk : gQ N w F { w with drawn := w.drawn + 1 } F := .mk' (fun _ _ _ => rfl) (fun _ => Nat.le_refl _) fun _ h => h
  exact ⟨h.to hk (Nat.le_refl _) (fun _ _ => rfl) (fun g loc hg _ => ⟨rfl, rfl, hg⟩) (fun g hg => h.new g hg) h.zow, ⟨rfl, rfl, rfl, Nat.le_refl _, hk, fun g _ hg => ⟨fun _ => rfl, rfl, hg⟩⟩⟩
theorem aOL (hP : P.follows .mixedOrders = true) (hD : mT P N D) {s s' : (St m)} {a : Act} {w : World} {F : Fr} {Ow : Own} {bm : Nat → Nat} {id : Nat} {draw : Bool} (h : Inv P s a.tmps w F N Ow bm) (hnt : nt ≤ s.boxes.length)
    (hd : draw = true → aAX mv pu ta ops = true) (hs : lN P D nt mv pu ta ops ops.toList 0 s some = some s') {Q : Exit → Act → World → Prop} (hk : ∀ a' w', mG P N nt s' a w F Ow bm a' w' → Q .normal a' w') : (Code.region id ops draw).wp P Q a w := by
  cases draw with
  | false =>
    refine wp_region ?_
    have := aPh (mv := mv) (pu := pu) (Q := Q) hD ops.toList 0 s a w F Ow bm (fun j => by simp) h hnt hs hk
    rwa [← List.range_eq_range', Array.length_toList] at this
  | true =>
    obtain ⟨h1, h2⟩ := aTv h
    refine wp_region_any hP ?_
    refine aRW hD ops.size _ s a _ F Ow bm h1 hnt (aQx (hd rfl) hs) fun a' w' hst => hk a' w' ?_
    obtain ⟨F1, O1, b1, k1, k2, k3, k4⟩ := hst
    exact ⟨F1, O1, b1, k1, h2.trans k2, k3, k4⟩
end
end Go.Vs
end
section
namespace Go.Vs
variable {m : Bool}
variable {P : Program} {N : Env}
theorem aMI (ts : List Nat) : ∀ (l : List (SV m)) (t : Nat), (ts.foldl (fun l t => l.set t .any) l).length = l.length ∧
    ((ts.foldl (fun l t => l.set t .any) l).getD t .any = .any ∨ (ts.foldl (fun l t => l.set t .any) l).getD t .any = l.getD t .any) := by
  induction ts with
  | nil => intro l t; exact ⟨rfl, .inr rfl⟩
  | cons u ts ih =>
    intro l t
    obtain ⟨h1, h2⟩ := ih (l.set u .any) t
    refine ⟨by rw [List.foldl_cons, h1]; simp, ?_⟩
    rw [List.foldl_cons]
    rcases h2 with h2 | h2
    · exact .inl h2
    · rw [h2]
      by_cases hu : t = u
      · subst hu
        left
        by_cases hl : t < l.length
        · rw [List.getD_eq_getElem?_getD, List.getElem?_set_self hl]; rfl
        · rw [List.getD_eq_getElem?_getD, List.getElem?_eq_none (by simpa using hl)]; rfl
      · right
        rw [List.getD_eq_getElem?_getD, List.getElem?_set_ne (fun e => hu e.symm), ← List.getD_eq_getElem?_getD]
theorem aK1 (bs : List Nat) : ∀ (l : (gW m)), (bs.foldl (fun l b => l.set b none) l).length = l.length ∧ ∀ b, (b ∉ bs → bJ (bs.foldl (fun l b => l.set b none) l) b = bJ l b) ∧ (b ∈ bs → bJ (bs.foldl (fun l b => l.set b none) l) b = none) := by
  induction bs with
  | nil => intro l; exact ⟨rfl, fun b => ⟨fun _ => rfl, by simp⟩⟩
  | cons c bs ih =>
    intro l
    obtain ⟨h1, h2⟩ := ih (l.set c none)
    refine ⟨by rw [List.foldl_cons, h1]; simp, fun b => ⟨fun hb => ?_, fun hb => ?_⟩⟩
    · rw [List.mem_cons, not_or] at hb
      rw [List.foldl_cons, (h2 b).1 hb.2, nB hb.1]
    · rw [List.foldl_cons]
      by_cases hb2 : b ∈ bs
      · exact (h2 b).2 hb2
      · have : b = c := by
          rcases List.mem_cons.1 hb with h | h
          · exact h
          · exact absurd h hb2
        subst this
        rw [(h2 b).1 hb2]
        by_cases hl : b < l.length
        · rw [fF hl]
        · unfold bJ
          rw [List.getD_eq_getElem?_getD, List.getElem?_eq_none (by simpa using hl)]; rfl
theorem eG.fewer {w : World} {F : Fr} {bm : Nat → Nat} {al al' : Nat → Bool} {bs : List Nat} {x : (SV m)} {v : Value} (h : eG w F N bm al x v) (hn : x.noPtr bs = true) (ha : ∀ b, b ∉ bs → al b = true → al' b = true) : eG w F N bm al' x v := by
  cases x with
  | ptr b o =>
    simp only [eG] at h ⊢
    exact ⟨h.1, ha b (by simpa [SV.noPtr] using hn) h.2⟩
  | bsl b z lo n =>
    simp only [eG] at h ⊢
    obtain ⟨cap, h1, h2, h3⟩ := h
    exact ⟨cap, h1, h2, ha b (by simpa [SV.noPtr] using hn) h3⟩
  | _ => exact h
theorem aZ.fewer {w : World} {F : Fr} {Ow : Own} {bm : Nat → Nat} {al al' : Nat → Bool} {bs : List Nat} {loc : Loc} {x : (SV m)} {v : Value} (h : aZ P w F N Ow bm al loc x v) (hn : x.noBox bs = true) (ha : ∀ b, b ∉ bs → al b = true → al' b = true) : aZ P w F N Ow bm al' loc x v := by
  cases x with
  | ptr b o =>
    have h' : eG (m := m) w F N bm al (.ptr b o) v := by simpa only [aZ] using h
    simpa only [aZ] using h'.fewer hn ha
  | bsl b z lo n =>
    have h' : eG (m := m) w F N bm al (.bsl b z lo n) v := by simpa only [aZ] using h
    simpa only [aZ] using h'.fewer hn ha
  | fn g caps =>
    obtain ⟨vs, e, hs, hc⟩ := h
    exact ⟨vs, e, hs, fun j c u a b => (hc j c u a b).fewer (List.all_eq_true.1 hn c (List.mem_of_getElem? a)) ha⟩
  | tup cs =>
    obtain ⟨vs, e, hs, hc⟩ := h
    exact ⟨vs, e, hs, fun j c u a b => (hc j c u a b).fewer (List.all_eq_true.1 hn c (List.mem_of_getElem? a)) ha⟩
  | own eo es => exact h
  | leaf l => exact h
  | agg cs => exact h
  | nilptr => exact h
  | nilface => exact h
  | any => exact h
  | skip => exact h
  | eptr c e o => exact h
section
variable {s : (St m)} {a : Act} {w : World} {F : Fr} {Ow : Own} {bm : Nat → Nat} {nt : Nat}
theorem Inv.again {tmps : Array Value} (h : Inv P s tmps w F N Ow bm) {ts bs : List Nat} {s' : (St m)} (hs : s.again ts bs = some s') : Inv P s' tmps w F N Ow bm ∧ s'.boxes.length = s.boxes.length := by
  unfold St.again at hs
  obtain ⟨hn, hs⟩ := bS hs
  simp only [Option.some.injEq] at hs
  subst hs
  obtain ⟨hl, hb⟩ := aK1 bs s.boxes
  refine ⟨?_, hl⟩
  have slotRep : ∀ t, aZ P w F N Ow bm s.al (.tmp t) ((s.forget ts bs).tmps.getD t .any) (tmps.getD t undef) := by
    intro t
    rcases (aMI ts s.tmps t).2 with h2 | h2
    · show aZ P w F N Ow bm s.al (.tmp t) ((ts.foldl (fun l t => l.set t .any) s.tmps).getD t .any) _
      rw [h2]; exact aZ.any
    · show aZ P w F N Ow bm s.al (.tmp t) ((ts.foldl (fun l t => l.set t .any) s.tmps).getD t .any) _
      rw [h2]; exact h.slot t
  have ha : ∀ b, b ∉ bs → s.al b = true → (s.forget ts bs).al b = true := by
    intro b hb' hal
    show (bJ (bs.foldl (fun l b => l.set b none) s.boxes) b).isSome = true
    rw [(hb b).1 hb']; exact hal
  have hbox : ∀ b cs, bJ (s.forget ts bs).boxes b = some cs → b ∉ bs ∧ bJ s.boxes b = some cs := by
    intro b cs hbc
    have hbc' : bJ (bs.foldl (fun l b => l.set b none) s.boxes) b = some cs := hbc
    by_cases hm : b ∈ bs
    · rw [(hb b).2 hm] at hbc'; simp at hbc'
    · rw [(hb b).1 hm] at hbc'; exact ⟨hm, hbc'⟩
  unfold St.noBox at hn
  rw [Bool.or_eq_true] at hn
  have fewer : ∀ (loc : Loc) (x : (SV m)) (v : Value), (bs.isEmpty = false → x.noBox bs = true) → aZ P w F N Ow bm s.al loc x v → aZ P w F N Ow bm (s.forget ts bs).al loc x v := by
    intro loc x v hx hr
    cases hbe : bs.isEmpty with
    | false => exact hr.fewer (hx hbe) ha
    | true =>
      have : bs = [] := by simpa using hbe
      subst this
      exact hr
  refine ⟨by rw [← h.len]; exact (aMI ts s.tmps 0).1, fun t => ?_, fun b cs hbc => ?_, h.low, h.new, fun b cs hbc => h.bmn b cs (hbox b cs hbc).2, h.zow⟩
  · refine fewer _ _ _ (fun hbe => ?_) (slotRep t)
    rcases hn with hn | hn
    · rw [hbe] at hn; simp at hn
    · rw [Bool.and_eq_true] at hn
      rcases Nat.lt_or_ge t (s.forget ts bs).tmps.length with ht | ht
      · rw [List.getD_eq_getElem?_getD, List.getElem?_eq_getElem ht]
        exact List.all_eq_true.1 hn.1 _ (List.getElem_mem ht)
      · rw [List.getD_eq_getElem?_getD, List.getElem?_eq_none ht]; rfl
  · obtain ⟨hm, hbc'⟩ := hbox b cs hbc
    obtain ⟨cur, e, g1, g2, g3, g4, g5⟩ := h.box b cs hbc'
    refine ⟨cur, e, g1, g2, g3, g4, fun j c u hc hu => fewer _ _ _ (fun hbe => ?_) (g5 j c u hc hu)⟩
    rcases hn with hn | hn
    · rw [hbe] at hn; simp at hn
    · rw [Bool.and_eq_true] at hn
      have hlt := yZ hbc
      have : (s.forget ts bs).boxes[b]? = some (some cs) := by
        have hbc2 := hbc
        unfold bJ at hbc2
        rw [List.getD_eq_getElem?_getD, List.getElem?_eq_getElem hlt] at hbc2
        rw [List.getElem?_eq_getElem hlt]
        simpa using hbc2
      have h1 := List.all_eq_true.1 hn.2 _ (List.mem_of_getElem? this)
      exact List.all_eq_true.1 h1 c (List.mem_of_getElem? hc)
theorem Inv.tidy {tmps : Array Value} (h : Inv P s tmps w F N Ow bm) (ts bs : List Nat) : Inv P (s.tidy ts bs) tmps w F N Ow bm ∧ (s.tidy ts bs).boxes.length = s.boxes.length := by
  have h0 := h.again (ts := ts) (bs := []) (by simp [St.again, St.noBox, aA]; rfl)
  cases bs with
  | nil => exact h0
  | cons b bs =>
    simp only [St.tidy]
    cases hs : s.again ts ((b :: bs).filter fun b => !(s.forget ts []).refs.contains b) with
    | some s' => exact h.again hs
    | none => exact h0
theorem mG.tidy {s' : (St m)} {a' : Act} {w' : World} (h : mG P N nt s' a w F Ow bm a' w') (ts bs : List Nat) : mG P N nt (s'.tidy ts bs) a w F Ow bm a' w' := by
  obtain ⟨F1, O1, b1, h1, h2⟩ := h
  exact ⟨F1, O1, b1, (h1.tidy ts bs).1, h2⟩
theorem Inv.dropC {tmps : Array Value} (h : Inv P s tmps w F N Ow bm) (d : Nat → List Nat × List Nat) (c : Operand) : Inv P (s.dropC d c) tmps w F N Ow bm ∧ (s.dropC d c).boxes.length = s.boxes.length := by
  cases c with
  | tmp t =>
    exact h.tidy (d t).1 (d t).2
  | _ => exact ⟨h, rfl⟩
theorem aPC (s : (St m)) (ts bs : List Nat) : (s.tidy ts bs).boxes.length = s.boxes.length := by
  have key : ∀ (s : (St m)) ts bs, (s.forget ts bs).boxes.length = s.boxes.length := fun s ts bs => (aK1 bs s.boxes).1
  cases bs with
  | nil => exact key _ _ _
  | cons b bs =>
    simp only [St.tidy]
    cases hs : s.again ts ((b :: bs).filter fun b => !(s.forget ts []).refs.contains b) with
    | some s' =>
      unfold St.again at hs
      obtain ⟨_, hs⟩ := bS hs
      simp only [Option.some.injEq] at hs
      subst hs
      exact key _ _ _
    | none => exact key _ _ _
theorem aIy : ∀ {cs : List (SV m)} {ls : List (aE m)}, dT cs = some ls → ls.length = cs.length
  | [], ls, h => by simp only [dT, Option.some.injEq] at h; subst h; rfl
  | c :: r, ls, h => by
    simp only [dT, Option.bind_eq_some_iff, Option.map_eq_some_iff] at h
    obtain ⟨l, _, ls', h1, rfl⟩ := h
    simp [aIy h1]
theorem aLh : ∀ {cs : List (SV m)} {ls : List (aE m)} {j : Nat} {l : aE m}, dT cs = some ls → ls[j]? = some l → ∃ c, cs[j]? = some c ∧ asLeaf c = some l
  | [], ls, j, l, h, hj => by simp only [dT, Option.some.injEq] at h; subst h; simp at hj
  | c :: r, ls, j, l, h, hj => by
    simp only [dT, Option.bind_eq_some_iff, Option.map_eq_some_iff] at h
    obtain ⟨l', h0, ls', h1, rfl⟩ := h
    cases j with
    | zero => simp at hj; subst hj; exact ⟨c, rfl, h0⟩
    | succ j => simp at hj; obtain ⟨c', a, b⟩ := aLh h1 hj; exact ⟨c', by simpa using a, b⟩
theorem aZ.asLeaf {w : World} {F : Fr} {Ow : Own} {bm : Nat → Nat} {al : Nat → Bool} {loc : Loc} {x : (SV m)} {v : Value} {l : aE m} (h : aZ P w F N Ow bm al loc x v) (hl : asLeaf x = some l) : eN w F N l v := by
  cases x <;> simp only [Vs.asLeaf, Option.some.injEq] at hl <;> try (cases hl; done)
  · subst hl; exact h
  · subst hl; exact xD.leaf h
theorem eG.frz {F' : Fr} {al al' : Nat → Bool} {b : Nat} {ls : List (aE m)} {vals : List Value} (hF : ∀ g, F g ≤ F' g) (hb : ls.length ≤ F' (bm b)) (hn : N.n ≤ bm b) (hr : dE w F' N ls vals) (hc : ∀ (j : Nat) (u : Value), vals[j]? = some u → w.cell? ⟨bm b, j, none⟩ = some u)
    (ha : ∀ b', b' ≠ b → al b' = true → al' b' = true) {x : (SV m)} {v : Value} (h : eG w F N bm al x v) : eG w F' N bm al' (x.frzF b ls) v := by
  have k : gQ N w F w F' := .mk' (fun _ _ _ => rfl) hF fun _ h => h
  have h := h.keeps k
  cases x with
  | ptr b' o =>
    simp only [SV.frzF]
    simp only [eG] at h
    split
    · rename_i e
      subst e
      refine ⟨bm b', 0, vals, by rw [Nat.zero_add]; exact h.1, by omega, ⟨by cases m <;> trivial, fun hz => absurd (N.lt _ hz) (by omega)⟩, hr, fun j u hj => by rw [Nat.zero_add]; exact hc j u hj⟩
    · rename_i e
      exact ⟨h.1, ha _ e h.2⟩
  | bsl b' z lo n =>
    simp only [SV.frzF]
    split
    · trivial
    · rename_i e
      obtain ⟨cap, h1, h2, h3⟩ := h
      exact ⟨cap, h1, h2, ha _ e h3⟩
  | _ => exact h
theorem Inv.freeze1 {tmps : Array Value} (h : Inv P s tmps w F N Ow bm) (b : Nat) : ∃ F' Ow', Inv P (s.freeze1 b) tmps w F' N Ow' bm ∧ Far N w F Ow w F' Ow' := by
  unfold St.freeze1
  split
  · rename_i ls hls
    rw [Option.bind_eq_some_iff] at hls
    obtain ⟨cs, hcs, hls⟩ := hls
    obtain ⟨cur, e, g1, g2, g3, g4, g5⟩ := h.box b cs hcs
    have hlt := yZ hcs
    have hn := h.bmn b cs hcs
    let F' : Fr := fun g => if g = bm b then cs.length else F g
    let Ow' : Own := fun g => if g = bm b then none else Ow g
    have hF : ∀ g, F g ≤ F' g := fun g => by
      show F g ≤ if g = bm b then cs.length else F g
      split
      · rename_i hg; rw [hg, g3]; exact Nat.zero_le _
      · exact Nat.le_refl _
    have hFb : F' (bm b) = cs.length := if_pos rfl
    have kp : gQ N w F w F' := .mk' (fun _ _ _ => rfl) hF fun _ h => h
    have hlen : ls.length = cs.length := aIy hls
    have hr : dE w F' N ls cur.toList := by
      refine ⟨by rw [hlen, ← g2]; simp, fun j l u hl hu => ?_⟩
      obtain ⟨c, hc, hcl⟩ := aLh hls hl
      have := g5 j c u hc (by simpa using hu)
      exact (this.asLeaf hcl).keeps kp
    have hc : ∀ (j : Nat) (u : Value), cur.toList[j]? = some u → w.cell? ⟨bm b, j, none⟩ = some u := fun j u hj => by
      simp only [World.cell?, g1]
      simpa using hj
    let al' : Nat → Bool := fun b' => (bJ ((s.boxes.set b none).map (Option.map (List.map (SV.frz b ls)))) b').isSome
    have bat : ∀ b', bJ ((s.boxes.set b none).map (Option.map (List.map (SV.frz b ls)))) b' = if b' = b then none else (bJ s.boxes b').map (List.map (SV.frz b ls)) := fun b' => by
      have e1 : bJ ((s.boxes.set b none).map (Option.map (List.map (SV.frz b ls)))) b' = (bJ (s.boxes.set b none) b').map (List.map (SV.frz b ls)) := by
        unfold bJ
        rw [List.getD_eq_getElem?_getD, List.getD_eq_getElem?_getD, List.getElem?_map]
        cases (s.boxes.set b none)[b']? <;> rfl
      rw [e1]
      split
      · rename_i hb; subst hb; rw [fF hlt]; rfl
      · rename_i hb; rw [nB hb]
    have ha : ∀ b', b' ≠ b → s.al b' = true → al' b' = true := fun b' hb hal => by
      show (bJ ((s.boxes.set b none).map (Option.map (List.map (SV.frz b ls)))) b').isSome = true
      rw [bat, if_neg hb]
      have : (bJ s.boxes b').isSome = true := hal
      cases hx : bJ s.boxes b' with
      | none => rw [hx] at this; simp at this
      | some y => rfl
    have hOw : ∀ (loc : Loc), (∀ k, loc ≠ .blk k) → ∀ g, Ow g = some loc → w.heap[g]? = w.heap[g]? ∧ F' g = F g ∧ Ow' g = some loc := fun loc hloc g hg => by
      have hgb : g ≠ bm b := fun hx => by
        subst hx
        rw [g4] at hg
        simp only [Option.some.injEq] at hg
        exact hloc b hg.symm
      exact ⟨rfl, if_neg hgb, by show (if g = bm b then none else Ow g) = _; rw [if_neg hgb]; exact hg⟩
    have conv : ∀ (loc : Loc) (x : (SV m)) (v : Value), (∀ k, loc ≠ .blk k) → aZ P w F N Ow bm s.al loc x v → aZ P w F' N Ow' bm al' loc (x.frz b ls) v := fun loc x v hloc hx => by
      have fr : ∀ {x : (SV m)} {v : Value}, eG w F N bm s.al x v → eG w F' N bm al' (x.frzF b ls) v := fun hx => hx.frz hF (Nat.le_of_eq (hlen.trans hFb.symm)) hn hr hc ha
      have many : ∀ (l : List (SV m)) (vs : Array Value), (∀ (j : Nat) (c : (SV m)) (u : Value), l[j]? = some c → vs[j]? = some u → eG w F N bm s.al c u) →
          ∀ (j : Nat) (c : (SV m)) (u : Value), (l.map (SV.frzF b ls))[j]? = some c → vs[j]? = some u → eG w F' N bm al' c u := fun l vs hl j c u hj hu => by
        simp only [List.getElem?_map, Option.map_eq_some_iff] at hj
        obtain ⟨c', hc', rfl⟩ := hj
        exact fr (hl j c' u hc' hu)
      cases x with
      | own eo es => exact xD.keeps kp hx (hOw loc hloc)
      | fn g caps =>
        obtain ⟨vs, e1, e2, e3⟩ := hx
        exact ⟨vs, e1, by simpa using e2, many _ _ e3⟩
      | tup cs =>
        obtain ⟨vs, e1, e2, e3⟩ := hx
        exact ⟨vs, e1, by simpa using e2, many _ _ e3⟩
      | any => exact aZ.any
      | skip => exact fr (x := .skip) (v := v) hx
      | leaf l => exact fr (x := .leaf l) (v := v) hx
      | agg l => exact fr (x := .agg l) (v := v) hx
      | nilptr => exact fr (x := .nilptr) (v := v) hx
      | nilface => exact fr (x := .nilface) (v := v) hx
      | eptr c e o => exact fr (x := .eptr c e o) (v := v) hx
      | ptr b' o =>
        have := fr (x := .ptr b' o) (v := v) hx
        revert this
        simp only [SV.frz, SV.frzF]
        split <;> exact id
      | bsl b' z lo n =>
        have := fr (x := .bsl b' z lo n) (v := v) hx
        revert this
        simp only [SV.frz, SV.frzF]
        split <;> exact id
    refine ⟨F', Ow', ⟨by rw [← h.len]; simp, fun t => ?_, fun b' c' hb' => ?_, ⟨h.low.le, fun k hk => ?_⟩, fun g hg => ?_, fun b' c' hb' => ?_, fun g hz => ?_⟩, ⟨rfl, rfl, rfl, Nat.le_refl _, kp, fun g _ hg => ⟨fun _ => rfl, ?_, ?_⟩⟩⟩
    · have e1 : (s.tmps.map (SV.frz b ls)).getD t .any = (s.tmps.getD t .any).frz b ls := by
        rw [List.getD_eq_getElem?_getD, List.getD_eq_getElem?_getD, List.getElem?_map]
        cases s.tmps[t]? <;> rfl
      show aZ P w F' N Ow' bm al' (.tmp t) ((s.tmps.map (SV.frz b ls)).getD t .any) _
      rw [e1]
      exact conv _ _ _ (fun k hk => by simp at hk) (h.slot t)
    · have hb2 : bJ ((s.boxes.set b none).map (Option.map (List.map (SV.frz b ls)))) b' = some c' := hb'
      rw [bat] at hb2
      split at hb2
      · simp at hb2
      · rename_i hne
        rw [Option.map_eq_some_iff] at hb2
        obtain ⟨c0, hc0, rfl⟩ := hb2
        obtain ⟨cur', e', k1, k2, k3, k4, k5⟩ := h.box b' c0 hc0
        have hbb : bm b' ≠ bm b := fun hx => by
          rw [hx, g4] at k4
          simp only [Option.some.injEq, Loc.blk.injEq] at k4
          exact hne k4.symm
        refine ⟨cur', e', k1, by simpa using k2, (if_neg hbb).trans k3, by show (if bm b' = bm b then none else Ow (bm b')) = _; rw [if_neg hbb]; exact k4, fun j c u hj hu => ?_⟩
        simp only [List.getElem?_map, Option.map_eq_some_iff] at hj
        obtain ⟨c1, hc1, rfl⟩ := hj
        exact conv _ _ _ (fun k hk => by simp at hk) (k5 j c1 u hc1 hu)
    · obtain ⟨h1, h2, h3⟩ := h.low.know k hk
      exact ⟨Nat.lt_of_lt_of_le h1 (hF _), h2, h3⟩
    · have hgb : g ≠ bm b := fun hx => by
        subst hx
        have := (Array.getElem?_eq_some_iff.1 g1).1
        omega
      exact ⟨(if_neg hgb).trans (h.new g hg).1, by show (if g = bm b then none else Ow g) = none; rw [if_neg hgb]; exact (h.new g hg).2⟩
    · have hb2 : bJ ((s.boxes.set b none).map (Option.map (List.map (SV.frz b ls)))) b' = some c' := hb'
      rw [bat] at hb2
      split at hb2
      · simp at hb2
      · rw [Option.map_eq_some_iff] at hb2
        obtain ⟨c0, hc0, _⟩ := hb2
        exact h.bmn b' c0 hc0
    · refine ⟨?_, (h.zow g hz).2⟩
      show (if g = bm b then none else Ow g) = none
      split
      · rfl
      · exact (h.zow g hz).1
    · exact if_neg fun hx => by rw [hx, g4] at hg; simp at hg
    · show (if g = bm b then none else Ow g) = none
      split
      · rfl
      · exact hg
  · exact ⟨F, Ow, h, Far.refl _ _ _⟩
theorem aMx (s : (St m)) (b : Nat) : (s.freeze1 b).boxes.length = s.boxes.length := by
  unfold St.freeze1
  split <;> simp
theorem aHa : ∀ (bs : List Nat) (s : (St m)), (s.freeze bs).boxes.length = s.boxes.length
  | [], _ => rfl
  | b :: bs, s => (aHa bs _).trans (aMx s b)
theorem mG.freeze : ∀ (bs : List Nat) {s' : (St m)} {a' : Act} {w' : World}, mG P N nt s' a w F Ow bm a' w' → mG P N nt (s'.freeze bs) a w F Ow bm a' w'
  | [], _, _, _, h => h
  | b :: bs, s', a', w', h => by
    obtain ⟨F1, O1, b1, h1, h2, h3, h4⟩ := h
    obtain ⟨F2, O2, k1, k2⟩ := h1.freeze1 b
    exact mG.freeze bs ⟨F2, O2, b1, k1, h2.trans k2, h3, h4⟩
def aCt (P : Program) (N : Env) (nt L : Nat) (a : Act) (w : World) (F : Fr) (Ow : Own) (bm : Nat → Nat) : (Out m) → Exit → Act → World → Prop
  | .norm s', .normal, a', w' => mG P N nt s' a w F Ow bm a' w' ∧ s'.boxes.length = L
  | .exit id s', .exit id', a', w' => id = id' ∧ mG P N nt s' a w F Ow bm a' w' ∧ s'.boxes.length = L
  | .ret s', .ret, a', w' => mG P N nt s' a w F Ow bm a' w' ∧ s'.boxes.length = L
  | _, _, _, _ => False
theorem aCt.trans {L : Nat} {s1 : (St m)} {a1 : Act} {w1 : World} (h : mG P N nt s1 a w F Ow bm a1 w1) : ∃ F1 O1 b1, Inv P s1 a1.tmps w1 F1 N O1 b1 ∧ ∀ (out : Out m) ex a2 w2, aCt P N nt L a1 w1 F1 O1 b1 out ex a2 w2 → aCt P N nt L a w F Ow bm out ex a2 w2 := by
  obtain ⟨F1, O1, b1, h1, htr⟩ := h.inv
  refine ⟨F1, O1, b1, h1, fun out ex a2 w2 he => ?_⟩
  cases out <;> cases ex <;> simp only [aCt] at he ⊢
  · exact ⟨htr _ _ _ he.1, he.2⟩
  · exact ⟨he.1, htr _ _ _ he.2.1, he.2.2⟩
  · exact ⟨htr _ _ _ he.1, he.2⟩
abbrev aGS (n : Nat) : ((St m) → Option (Out m)) → ((St m) → Option (St m)) → (St m) → Option (Out m) := fun body again s => rounds body again n s
theorem aNc (hP : P.follows .mixedOrders = true) {D : (cA m)} (hD : mT P N D) {H : gN} (hH : H.nt = nt) (n L : Nat) (hL : nt ≤ L) : ∀ (c : Code) (blk : Nat) {β : Type} (k : (Out m) → Option β) (y : β) (s : (St m)) (a : Act) (w : World) (F : Fr) (Ow : Own) (bm : Nat → Nat)
    (Q : Exit → Act → World → Prop), eW P D H (aGS n) blk c s k = some y → Inv P s a.tmps w F N Ow bm → s.boxes.length = L →
    (∀ out ex a' w', k out = some y → aCt P N nt L a w F Ow bm out ex a' w' → Q ex a' w') → c.wp P Q a w := by
  intro c
  induction c with
  | skip =>
    intro blk β k y s a w F Ow bm Q hc h hl hk
    exact wp_skip (hk _ _ a w hc ⟨mG.refl h, hl⟩)
  | region id ops draw =>
    intro blk β k y s a w F Ow bm Q hc h hl hk
    simp only [eW] at hc
    obtain ⟨hd, hc⟩ := bS hc
    rw [nL, Option.bind_eq_some_iff] at hc
    obtain ⟨s', hs, hks⟩ := hc
    rw [hH] at hs
    refine aOL hP hD h (by omega) (fun hdr => by simpa [hdr] using hd) hs fun a' w' hst => hk _ _ _ _ hks ⟨(hst.tidy _ _).freeze _, by rw [aHa, aPC, aIF _ _ _ _ hs, hl]⟩
  | seq c1 c2 ih1 ih2 =>
    intro blk β k y s a w F Ow bm Q hc h hl hk
    simp only [eW] at hc
    refine wp_seq (ih1 blk _ y s a w F Ow bm _ hc h hl fun out ex a' w' ho he => ?_)
    cases out <;> cases ex <;> simp only [aCt] at he
    · obtain ⟨hst, hl'⟩ := he
      obtain ⟨F1, O1, b1, h1, htr⟩ := aCt.trans (L := L) hst
      exact ih2 blk k y _ a' w' F1 O1 b1 Q ho h1 hl' fun out ex a2 w2 ho2 he2 => hk out ex a2 w2 ho2 (htr _ _ _ _ he2)
    · exact hk _ _ _ _ ho he
    · exact hk _ _ _ _ ho he
  | cond x c1 c2 ih1 ih2 =>
    intro blk β k y s a w F Ow bm Q hc h hl hk
    simp only [eW] at hc
    obtain ⟨b, hb, hc⟩ := uX hc
    have hv := rZ ((h.eval (a := a) rfl x).leafOf _ (aCT hb))
    rw [pC] at hc
    cases b
    · exact wp_cond_false hv (ih2 blk k y _ a w F Ow bm Q (by simpa using hc) (h.dropC _ _).1 (by rw [(h.dropC _ _).2, hl]) hk)
    · exact wp_cond_true hv (ih1 blk k y _ a w F Ow bm Q (by simpa using hc) (h.dropC _ _).1 (by rw [(h.dropC _ _).2, hl]) hk)
  | block id c ih =>
    intro blk β k y s a w F Ow bm Q hc h hl hk
    simp only [eW] at hc
    refine wp_block (ih id _ y s a w F Ow bm _ hc h hl fun out ex a' w' ho he => ?_)
    cases out <;> cases ex <;> simp only [aCt] at he
    · exact hk _ _ _ _ ho he
    · rename_i id1 s1 id2
      obtain ⟨rfl, he⟩ := he
      simp only [Exit.inBlock]
      by_cases hid : id1 = id
      · simp only [wN, hid, if_true] at ho ⊢
        exact hk _ _ _ _ ho he
      · simp only [wN, hid, if_false] at ho ⊢
        exact hk _ _ _ _ ho ⟨rfl, he⟩
    · exact hk _ _ _ _ ho he
  | loop c ih =>
    intro blk β k y s a w F Ow bm Q hc h hl hk
    simp only [eW] at hc
    rw [Option.bind_eq_some_iff] at hc
    obtain ⟨out, hr, hko⟩ := hc
    refine wp_loop_rounds n ?_
    have key : ∀ (q : Nat) (s : (St m)) (a1 : Act) (w1 : World) (F1 : Fr) (O1 : Own) (b1 : Nat → Nat), rounds (fun s => eW P D H (aGS n) blk c s some) (fun s => s.again (H.clear blk) (H.drop blk)) q s = some out → Inv P s a1.tmps w1 F1 N O1 b1 → s.boxes.length = L →
        (∀ ex a2 w2, aCt P N nt L a1 w1 F1 O1 b1 out ex a2 w2 → Q ex a2 w2) → Code.rounds P c Q q a1 w1 := by
      intro q
      induction q with
      | zero => intro s a1 w1 F1 O1 b1 hr _ _ _; simp [rounds] at hr
      | succ q ihm =>
        intro s a1 w1 F1 O1 b1 hr h1 hl1 hq
        simp only [rounds] at hr
        rw [Option.bind_eq_some_iff] at hr
        obtain ⟨s2, hag, hr⟩ := hr
        rw [Option.bind_eq_some_iff] at hr
        obtain ⟨o, hb, hr⟩ := hr
        obtain ⟨h2, hl2⟩ := h1.again hag
        rw [rounds_succ]
        refine ih blk some o s2 a1 w1 F1 O1 b1 _ hb h2 (by rw [hl2, hl1]) fun out' ex a2 w2 ho he => ?_
        simp only [Option.some.injEq] at ho
        subst ho
        cases out' <;> cases ex <;> simp only [aCt] at he
        · obtain ⟨hst, hl3⟩ := he
          obtain ⟨F3, O3, b3, h3, htr⟩ := aCt.trans (L := L) hst
          exact ihm _ a2 w2 F3 O3 b3 hr h3 hl3 fun ex a4 w4 he4 => hq ex a4 w4 (htr _ _ _ _ he4)
        · simp only [Option.some.injEq] at hr
          subst hr
          exact hq _ _ _ he
        · simp only [Option.some.injEq] at hr
          subst hr
          exact hq _ _ _ he
    exact key n s a w F Ow bm hr h hl fun ex a2 w2 he => hk out ex a2 w2 hko he
  | exit id =>
    intro blk β k y s a w F Ow bm Q hc h hl hk
    exact wp_exit (hk _ _ a w hc ⟨rfl, mG.refl h, hl⟩)
  | ret =>
    intro blk β k y s a w F Ow bm Q hc h hl hk
    exact wp_ret (hk _ _ a w hc ⟨mG.refl h, hl⟩)
  | _ =>
    intro blk β k y s a w F Ow bm Q hc
    simp [eW] at hc
end
end Go.Vs
end
section
namespace Go.Vs
variable {m : Bool}
variable {P : Program} {N : Env}
section
variable {s : (St m)} {tmps : Array Value} {w : World} {F : Fr} {Ow : Own} {bm : Nat → Nat}
def aPX (s : (St m)) : ResultVar → Loc
  | .tmp t => .tmp t
  | .cell a _ => match s.tmps.getD a .any with | .ptr b p => .box b p | _ => .blk 0
def aCR (tmps : Array Value) : ResultVar → Sem Value
  | .tmp t => pure (tmps.getD t undef)
  | .cell a t => do loadVar t (← asAddr (tmps.getD a undef))
def aRF (w : World) (g : Nat) : Nat := match w.heap[g]? with | some (.cells cur _ _) => cur.size | _ => 0
def aBj (nt : Nat) (s : (St m)) (w : World) (F : Fr) (bm : Nat → Nat) : Fr := fun g => if (List.range nt).any (fun b => (bJ s.boxes b).isSome && bm b == g) = true then aRF w g else F g
theorem aNk {nt g : Nat} (hg : ∀ b, b < nt → (bJ s.boxes b).isSome = true → bm b ≠ g) : aBj nt s w F bm g = F g := by
  unfold aBj
  rw [if_neg]
  rw [List.any_eq_true]
  rintro ⟨b, hb, hx⟩
  simp only [Bool.and_eq_true, beq_iff_eq] at hx
  exact hg b (List.mem_range.1 hb) hx.1 hx.2
theorem aF8 (h : Inv P s tmps w F N Ow bm) {nt g : Nat} {loc : Loc} (hg : Ow g = some loc) (hl : ∀ b, b < nt → loc ≠ .blk b) : aBj nt s w F bm g = F g := by
  refine aNk fun b hb hal he => ?_
  obtain ⟨cs, hcs⟩ := Option.isSome_iff_exists.1 hal
  obtain ⟨_, _, _, _, _, ho, _⟩ := h.box b cs hcs
  rw [he, hg] at ho
  exact hl b hb (by simpa using ho)
theorem zC (h : Inv P s tmps w F N Ow bm) (nt : Nat) : gQ N w F w (aBj nt s w F bm) := by
  refine .mk' (fun _ _ _ => rfl) (fun g => ?_) fun _ h => h
  by_cases hx : ∃ b, b < nt ∧ (bJ s.boxes b).isSome = true ∧ bm b = g
  · obtain ⟨b, _, hal, rfl⟩ := hx
    obtain ⟨cs, hcs⟩ := Option.isSome_iff_exists.1 hal
    obtain ⟨_, _, _, _, h0, _, _⟩ := h.box b cs hcs
    rw [h0]; exact Nat.zero_le _
  · rw [aNk fun b hb hal he => hx ⟨b, hb, hal, he⟩]; exact Nat.le_refl _
theorem aSD (h : Inv P s tmps w F N Ow bm) {nt b : Nat} {cs : List (SV m)} (hb : b < nt) (hcs : bJ s.boxes b = some cs) : aBj nt s w F bm (bm b) = cs.length := by
  obtain ⟨cur, e, h1, h2, _⟩ := h.box b cs hcs
  unfold aBj
  rw [if_pos]
  · simp only [aRF, h1, h2]
  · rw [List.any_eq_true]
    exact ⟨b, List.mem_range.2 hb, by simp [hcs]⟩
theorem aKW {α : Type} {z : Nat} : ∀ (n : Nat) (l : List α), n * z ≤ l.length → (pB z n l).length = n ∧ (∀ e ∈ pB z n l, e.length = z) ∧ (pB z n l).flatten = l.take (n * z)
  | 0, l, _ => by simp [pB]
  | n + 1, l, h => by
    have hm : (n + 1) * z = n * z + z := Nat.succ_mul _ _
    obtain ⟨h1, h2, h3⟩ := aKW (z := z) n (l.drop z) (by rw [List.length_drop]; omega)
    refine ⟨by simp [pB, h1], fun e he => ?_, ?_⟩
    · rcases List.mem_cons.1 he with rfl | he
      · rw [List.length_take]; omega
      · exact h2 e he
    · rw [pB, List.flatten_cons, h3, hm, Nat.add_comm, List.take_add]
theorem aTB (h : Inv P s tmps w F N Ow bm) {nt : Nat} {loc : Loc} {x v : (SV m)} {u : Value} (hl : nX x = true → ∀ b, b < nt → loc ≠ .blk b) (hx : aZ P w F N Ow bm s.al loc x u) (hs : aRq nt s x = some v) : aZ P w (aBj nt s w F bm) N Ow bm s.al loc v u := by
  have hk := zC h nt
  have old : v = x → aZ P w (aBj nt s w F bm) N Ow bm s.al loc v u := fun e => by
    subst e
    exact hx.to hk (fun b hb => ⟨rfl, hb⟩) fun ho g hg => ⟨rfl, aF8 h hg (hl ho), hg⟩
  cases x with
  | bsl b z lo n =>
    simp only [aRq] at hs
    split at hs
    · rename_i hb
      obtain ⟨hb, rfl⟩ := hb
      rw [Option.bind_eq_some_iff] at hs
      obtain ⟨cs, hcs, hs⟩ := hs
      have hcs' : bJ s.boxes b = some cs := hcs
      split at hs
      · rename_i hc
        obtain ⟨hle, hz⟩ := hc
        rw [Option.map_eq_some_iff] at hs
        obtain ⟨l, hl', rfl⟩ := hs
        obtain ⟨cap, e, hcap, _⟩ := hx.bslOf b z 0 n rfl
        rw [Nat.zero_mul] at e
        subst e
        obtain ⟨cur, e, h1, h2, h3, h4, h5⟩ := h.box b cs hcs'
        have hcl := Array.length_toList (xs := cur)
        have hr : dE w F N l (cur.toList.take (n * z)) := by
          refine aAz (P := P) (Ow := Ow) (bm := bm) (al := s.al) (cs.take (n * z)) _ l (fun j => .box b j) hl' (by simp; omega) fun j c u hc hu => ?_
          rw [List.getElem?_take] at hc hu
          split at hc
          · rename_i hj
            simp only [hj, if_true] at hu
            exact h5 j c u hc (by simpa using hu)
          · simp at hc
        have hll : l.length = n * z := by have := hr.1; rw [List.length_take] at this; omega
        obtain ⟨c1, c2, c3⟩ := aKW (z := z) n l (by omega)
        rw [List.take_of_length_le (by omega)] at c3
        refine aZ.leaf ?_
        have := pM (w := w) (F := aBj nt s w F bm) (N := N) (c := Fl.new m) (es := pB z n l) (A := some ⟨bm b, 0, none⟩) (cap := cap) (z := z) (vals := cur.toList.take (n * z)) (by rw [c1]; exact hcap) c2 (fun hpos => ⟨bm b, 0, rfl, ⟨by rw [c1] at hpos; rw [List.length_take, Nat.min_eq_left (by omega)]; exact Nat.mul_pos hpos (by omega), Fl.Holds.mk_new (h.bmn b cs hcs') (let ⟨cur, e, hg, _⟩ := h.box b cs hcs'; ⟨cur, e, hg⟩)⟩, ?_, ⟨fun hh => by rw [Fl.soft_new] at hh; simp at hh, fun hh => absurd (N.lt _ hh) (Nat.not_lt.2 (h.bmn b cs hcs'))⟩, fun j v hj => ?_⟩) (by rw [c3]; exact hr.keeps hk)
        · rw [c1] at this; exact this
        · rw [aSD h hb hcs', List.length_take]; omega
        · rw [List.getElem?_take] at hj
          split at hj
          · rw [Nat.zero_add, uG h1]; simpa using hj
          · simp at hj
      · simp at hs
    · simp at hs
  | _ => exact old (by simpa [aRq] using hs.symm)
theorem aMX {tmps : Array Value} {nt : Nat} {r : ResultVar} {v : (SV m)} (h : Inv P s tmps w F N Ow bm) (hr : aKw P nt s r = some v) :
    ∃ u, (aCR tmps r).run P w = .ok u w ∧ aZ P w (aBj nt s w F bm) N Ow bm s.al (aPX s r) v u ∧ (nX v = true → ∀ b p, aPX s r = .box b p → b < nt) := by
  cases r with
  | tmp t =>
    simp only [aKw] at hr
    exact ⟨_, rfl, aTB (loc := .tmp t) h (fun _ b _ => by simp) (h.slot t) hr, fun _ b p hb => by simp [aPX] at hb⟩
  | cell c t =>
    simp only [aKw] at hr
    split at hr
    · rename_i b p hp
      rw [Option.bind_eq_some_iff] at hr
      obtain ⟨cs, hb, hr⟩ := hr
      have hb' : bJ s.boxes b = some cs := hb
      have hx := h.slot c
      rw [hp] at hx
      have hz : tmps.getD c undef = .pointer (some ⟨bm b, p, none⟩) := by
        have : tmps.getD c undef = .pointer (some ⟨bm b, p, none⟩) ∧ s.al b = true := by simpa only [aZ, eG] using hx
        exact this.1
      have hloc : aPX s (.cell c t) = .box b p := by simp only [aPX, hp]
      have hld : ∀ u, (Instr.loadAt t (.pointer (some ⟨bm b, p, none⟩))).run P w = .ok u w → (aCR tmps (.cell c t)).run P w = .ok u w := by
        intro u hu
        have hu' : (loadVar t ⟨bm b, p, none⟩).run P w = .ok u w := by simpa [Instr.loadAt, Instr.sureAddr] using hu
        simp [aCR, hz, asAddr, hu']
      have hI : Inv P s (⟨tmps, []⟩ : Act).tmps w F N Ow bm := h
      split at hr
      · rename_i ha
        rw [Option.bind_eq_some_iff] at hr
        obtain ⟨n, hn, hr⟩ := hr
        split at hr
        · rename_i hle
          rw [Option.map_eq_some_iff] at hr
          obtain ⟨l, hl, rfl⟩ := hr
          obtain ⟨cur, et, hg, hcs, hrr⟩ := aNV (a := ⟨tmps, []⟩) hI hb' hle hl
          exact ⟨_, hld _ (aFO (n := n) (p := p) hg ha hn (by omega)), aZ.agg (by simpa using hrr.keeps (zC h nt)), fun ho => by simp [nX] at ho⟩
        · simp at hr
      · rename_i ha
        split at hr
        · rename_i hbn
          have ha' : qF P t = false := by simpa using ha
          obtain ⟨d, hd⟩ := aM5 ha'
          obtain ⟨cur, et, h1, h2, h3, h4, h5⟩ := h.box b cs hb'
          have hp' : p < cs.length := (List.getElem?_eq_some_iff.1 hr).1
          have hu : cur[p]? = some cur[p] := by simp
          refine ⟨cur[p], hld _ (yK h1 hd ha' hu), by rw [hloc]; exact (h5 p v _ hr hu).to (zC h nt) (fun b hb => ⟨rfl, hb⟩) fun _ g hg => ⟨rfl, aF8 h hg (fun b _ => by simp), hg⟩, fun _ b' p' hb'' => ?_⟩
          rw [hloc] at hb''
          cases hb''
          exact hbn
        · simp at hr
    · simp at hr
theorem aM6 {tmps : Array Value} {nt : Nat} (h : Inv P s tmps w F N Ow bm) : ∀ (rs : List ResultVar) (vs : List (SV m)), aEP P nt s rs = some vs → ∃ us, (rs.mapM (aCR tmps)).run P w = .ok us w ∧ us.length = vs.length ∧
    ∀ (j : Nat) (c : (SV m)) (u : Value), vs[j]? = some c → us[j]? = some u → ∃ loc, aZ P w (aBj nt s w F bm) N Ow bm s.al loc c u ∧ nX c = false
  | [], vs, hr => by simp [aEP] at hr; subst hr; exact ⟨[], by simp, rfl, by simp⟩
  | r :: rs, vs, hr => by
    simp only [aEP] at hr
    rw [Option.bind_eq_some_iff] at hr
    obtain ⟨v, hv, hr⟩ := hr
    rw [Option.map_eq_some_iff] at hr
    obtain ⟨vs', hvs, rfl⟩ := hr
    obtain ⟨u, hu, hrep, _⟩ := aMX h hv
    obtain ⟨us, h1, h2, h3⟩ := aM6 h rs vs' hvs
    refine ⟨u :: us, by simp [List.mapM_cons, hu, h1], by simp [h2], fun j c x hc hx => ?_⟩
    cases j with
    | zero => simp at hc hx; subst hc hx; exact ⟨_, aZ.drop (Ow' := Ow) (loc' := .blk 0) hrep, rU _⟩
    | succ j => exact h3 j c x (by simpa using hc) (by simpa using hx)
theorem aQ3 (fn : Func) (tmps : Array Value) : results fn tmps = (do let vs ← fn.results.mapM (aCR tmps); pure (if h : vs.size = 1 then vs[0] else .tuple vs)) := by
  unfold results
  congr 1
theorem aPZ {tmps : Array Value} {fn : Func} {v : (SV m)} (h : Inv P s tmps w F N Ow bm) (hr : aOA P fn s = some v) (hfl : v.flatT = true) :
    ∃ u loc, (results fn tmps).run P w = .ok u w ∧ aZ P w (aBj fn.ntmps s w F bm) N Ow bm s.al loc v u ∧ (nX v = true → (∃ t, loc = .tmp t) ∨ ∃ b p, loc = .box b p ∧ b < fn.ntmps) := by
  unfold aOA at hr
  rw [aQ3]
  split at hr
  · rename_i r hrs
    have hrs' : fn.results = #[r] := by rw [← hrs]
    obtain ⟨u, hu, hrep, hown⟩ := aMX h hr
    refine ⟨u, aPX s r, by rw [hrs']; simp [hu], hrep, fun ho => ?_⟩
    cases r with
    | tmp t => exact .inl ⟨t, rfl⟩
    | cell c t =>
      cases hp : s.tmps.getD c .any with
      | ptr b p => exact .inr ⟨b, p, by simp only [aPX, hp], hown ho b p (by simp only [aPX, hp])⟩
      | _ => simp only [aKw, hp] at hr; simp at hr
  · rename_i hne
    rw [Option.map_eq_some_iff] at hr
    obtain ⟨vs, hvs, rfl⟩ := hr
    obtain ⟨us, h1, h2, h3⟩ := aM6 h _ vs hvs
    have hlen : us.length = fn.results.toList.length := by
      have : ∀ (rs : List ResultVar) (vs : List (SV m)), aEP P fn.ntmps s rs = some vs → vs.length = rs.length := by
        intro rs
        induction rs with
        | nil => intro vs h; simp [aEP] at h; subst h; rfl
        | cons r rs ih =>
          intro vs h
          simp only [aEP] at h
          rw [Option.bind_eq_some_iff] at h
          obtain ⟨v, _, h⟩ := h
          rw [Option.map_eq_some_iff] at h
          obtain ⟨vs', hvs, rfl⟩ := h
          simp [ih vs' hvs]
      rw [h2, this _ _ hvs]
    have hn1 : us.length ≠ 1 := by
      intro he
      rw [hlen] at he
      obtain ⟨r, hr⟩ := List.length_eq_one_iff.1 he
      exact hne r hr
    refine ⟨.tuple us.toArray, .blk 0, ?_, ⟨us.toArray, rfl, by simpa using h2, fun j c u hc hu => ?_⟩, fun ho => by simp [nX] at ho⟩
    · rw [Array.mapM_eq_mapM_toList]
      simp [h1, hn1]
    · obtain ⟨loc, hrep, hno⟩ := h3 j c u hc (by simpa using hu)
      cases c with
      | own eo es => simp [nX] at hno
      | fn g caps => have := List.all_eq_true.1 hfl _ (List.mem_of_getElem? hc); simp [SV.flat] at this
      | tup vs => have := List.all_eq_true.1 hfl _ (List.mem_of_getElem? hc); simp [SV.flat] at this
      | _ => simpa only [aZ] using hrep
def aLW (n : Nat) : Loc → Option Loc
  | .tmp t => some (.tmp t)
  | .blk i => some (.blk (n + i))
  | .box i j => some (.box (n + i) j)
def aJl (lr : Loc) (n : Nat) (l : Loc) : Option Loc :=
  if l = lr then some (.tmp 0) else match l with
    | .tmp _ => none
    | .blk b => if n ≤ b then some (.blk (b - n)) else none
    | .box b j => if n ≤ b then some (.box (b - n) j) else none
theorem aKK {n : Nat} {bs : (gW m)} {b : Nat} : bJ (List.replicate n none ++ bs) b = if b < n then none else bJ bs (b - n) := by
  unfold bJ
  rw [List.getD_eq_getElem?_getD]
  split
  · rename_i h
    rw [List.getElem?_append_left (by simpa using h), List.getElem?_replicate]
    simp [h]
  · rename_i h
    rw [List.getElem?_append_right (by simpa using Nat.le_of_not_lt h), List.length_replicate, List.getD_eq_getElem?_getD]
theorem aZ.renamed {w : World} {F : Fr} {Ow Ow' : Own} {bm bm' : Nat → Nat} {al al' : Nat → Bool} {loc loc' : Loc} {x : (SV m)} {v : Value} {f : Nat → Nat} (h : aZ P w F N Ow bm al loc x v) (hx : x.handed = true)
    (hb : ∀ b, al b = true → bm' (f b) = bm b ∧ al' (f b) = true) (ho : nX x = true → ∀ g, Ow g = some loc → Ow' g = some loc') : aZ P w F N Ow' bm' al' loc' (x.ren f) v := by
  refine h.handed hx (fun b hb' => hb b ?_) ho
  cases x with
  | ptr c o =>
    have : b = c := by simpa [SV.boxIds] using hb'
    subst this
    have h' : eG (m := m) w F N bm al (.ptr b o) v := by simpa only [aZ] using h
    exact h'.2
  | bsl c z lo n =>
    have : b = c := by simpa [SV.boxIds] using hb'
    subst this
    obtain ⟨_, _, _, h3⟩ := h.bslOf b z lo n rfl
    exact h3
  | fn g caps =>
    obtain ⟨vs, e, hs, hc⟩ := h
    obtain ⟨c, hc1, hc2⟩ := List.mem_flatMap.1 hb'
    obtain ⟨j, hj⟩ := List.getElem?_of_mem hc1
    have hlt : j < vs.size := by rw [hs]; exact (List.getElem?_eq_some_iff.1 hj).1
    have h0 := hc j c _ hj (Array.getElem?_eq_getElem hlt)
    cases c with
    | ptr d o =>
      have : b = d := by simpa using hc2
      subst this
      exact h0.2
    | _ => simp at hc2
  | _ => simp [SV.boxIds] at hb'
theorem Inv.frame {args : List (SV m)} {boxes : List (List (SV m))} {vals : Array Value} (h : Inv P { tmps := args, boxes := boxes.map some } vals w F N Ow bm) (fn : Func) (hh : args.all SV.handed = true) (hf : ∀ c ∈ boxes, ∀ x ∈ c, x.flat = true) :
    Inv P (aA1 fn args boxes) (vals ++ Array.replicate (fn.ntmps - vals.size) undef) w F N (fun g => (Ow g).bind (aLW fn.ntmps)) (fun b => bm (b - fn.ntmps)) := by
  have hlen : args.length = vals.size := h.len
  have hal : ∀ b, (bJ (boxes.map some) b).isSome = true → bm (fn.ntmps + b - fn.ntmps) = bm b ∧ (bJ (List.replicate fn.ntmps none ++ boxes.map some) (fn.ntmps + b)).isSome = true := by
    intro b hb
    rw [aKK, if_neg (by omega), Nat.add_sub_cancel_left]
    exact ⟨rfl, hb⟩
  refine ⟨by simp [aA1, aRs, hlen], fun t => ?_, fun b cs hb => ?_, h.low, fun g hg => ⟨(h.new g hg).1, by simp [(h.new g hg).2]⟩, fun b cs hb => ?_, fun g hz => ⟨by simp [(h.zow g hz).1], (h.zow g hz).2⟩⟩
  rotate_right
  · have hb' : bJ (List.replicate fn.ntmps none ++ boxes.map some) b = some cs := hb
    rw [aKK] at hb'
    split at hb'
    · simp at hb'
    · exact h.bmn _ cs hb'
  · show aZ P w F N _ _ (fun b => (bJ (List.replicate fn.ntmps none ++ boxes.map some) b).isSome) (.tmp t) ((aRs fn.ntmps (args.map (SV.ren (fn.ntmps + ·)))).getD t .any) _
    rw [List.getD_eq_getElem?_getD, Array.getD_eq_getD_getElem?]
    unfold aRs
    by_cases ht : t < args.length
    · rw [List.getElem?_append_left (by simpa using ht), List.getElem?_map, List.getElem?_eq_getElem ht, Array.getElem?_append_left (by omega), Array.getElem?_eq_getElem (by omega)]
      simp only [Option.map_some, Option.getD_some]
      have hs := h.slot t
      have e1 : args.getD t .any = args[t] := by rw [List.getD_eq_getElem?_getD, List.getElem?_eq_getElem ht]; rfl
      have e2 : vals.getD t undef = vals[t]'(by omega) := by simp [Array.getD, show t < vals.size by omega]
      simp only at hs
      rw [e1, e2] at hs
      exact hs.renamed (List.all_eq_true.1 hh _ (List.getElem_mem ht)) hal fun _ g hg => by rw [hg]; rfl
    · rw [List.getElem?_append_right (by simpa using Nat.le_of_not_lt ht), Array.getElem?_append_right (by omega), List.getElem?_replicate]
      split
      · rename_i hl
        simp only [List.length_map] at hl
        rw [Array.getElem?_replicate, if_pos (by omega)]
        simp only [Option.getD_some, aZ, eG]
      · exact aZ.any
  · have hb' : bJ (List.replicate fn.ntmps none ++ boxes.map some) b = some cs := hb
    rw [aKK] at hb'
    split at hb'
    · simp at hb'
    · rename_i hlt
      obtain ⟨cur, e, g1, g2, g3, g4, g5⟩ := h.box (b - fn.ntmps) cs hb'
      have hmem : cs ∈ boxes := by
        have hl := yZ hb'
        unfold bJ at hb'
        rw [List.getD_eq_getElem?_getD, List.getElem?_map] at hb'
        cases hx : boxes[b - fn.ntmps]? with
        | none => rw [hx] at hb'; simp at hb'
        | some y => rw [hx] at hb'; simp at hb'; subst hb'; exact List.mem_of_getElem? hx
      have hbb : fn.ntmps + (b - fn.ntmps) = b := by omega
      refine ⟨cur, e, g1, g2, g3, by rw [g4]; simp [aLW, hbb], fun j c u hc hu => (g5 j c u hc hu).flat (aC1 (hf cs hmem c (List.mem_of_getElem? hc))) fun _ g hg => ?_⟩
      rw [hg]
      simp [aLW, hbb]
theorem Inv.leave {s : (St m)} {tmps : Array Value} {fn : Func} {n : Nat} {r : (SV m) × List (List (SV m))} (h : Inv P s tmps w F N Ow bm) (hr : aFU P fn n s = some r) :
    r.2.length = n ∧ r.1.flatT = true ∧ (∀ cs ∈ r.2, ∀ c ∈ cs, c.flat = true) ∧ ∃ u Ow' F', (results fn tmps).run P w = .ok u w ∧ Inv P { tmps := [r.1], boxes := r.2.map some } #[u] w F' N Ow' (fun i => bm (fn.ntmps + i)) ∧ gQ N w F w F' ∧ ∀ g, Ow g = none → F' g = F g ∧ Ow' g = none := by
  have hk := zC h fn.ntmps
  unfold aFU at hr
  rw [Option.bind_eq_some_iff] at hr
  obtain ⟨v, hv, hr⟩ := hr
  obtain ⟨hfl, hr⟩ := bS hr
  rw [Option.bind_eq_some_iff] at hr
  obtain ⟨cs, hcs, hr⟩ := hr
  obtain ⟨hfc, hr⟩ := bS hr
  simp only [Option.some.injEq] at hr
  subst hr
  obtain ⟨hl, hg⟩ := vA hcs
  simp only [List.length_map, List.length_range] at hl
  have hfc' : ∀ c ∈ cs, ∀ x ∈ c, x.flat = true := fun c hc x hx => List.all_eq_true.1 (List.all_eq_true.1 hfc c hc) x hx
  obtain ⟨u, lr, hrun, hrep, hown⟩ := aPZ h hv hfl
  have hlr : ∃ lr', aZ P w (aBj fn.ntmps s w F bm) N Ow bm s.al lr' v u ∧ (∀ b, n ≠ 0 → fn.ntmps ≤ b → lr' ≠ .blk b ∧ ∀ j, lr' ≠ .box b j) := by
    cases ho : nX v with
    | true =>
      rcases hown ho with ⟨t, rfl⟩ | ⟨b, p, rfl, hb⟩
      · exact ⟨_, hrep, fun b _ _ => ⟨by simp, by simp⟩⟩
      · refine ⟨_, hrep, fun c _ hc => ⟨by simp, fun j he => ?_⟩⟩
        cases he
        exact absurd hb (Nat.not_lt.2 hc)
    | false => exact ⟨.tmp 0, hrep.flat hfl (fun h => by rw [ho] at h; simp at h), fun b _ _ => ⟨by simp, by simp⟩⟩
  obtain ⟨lr', hrep', hne⟩ := hlr
  have hnone : ∀ g, Ow g = none → aBj fn.ntmps s w F bm g = F g := fun g hg' => aNk fun b hb hal he => by
    obtain ⟨cs0, hcs0⟩ := Option.isSome_iff_exists.1 hal
    obtain ⟨_, _, _, _, _, ho, _⟩ := h.box b cs0 hcs0
    rw [he, hg'] at ho
    simp at ho
  have hbox : ∀ i c, bJ (cs.map some) i = some c → i < n ∧ cs[i]? = some c ∧ bJ s.boxes (fn.ntmps + i) = some c := by
    intro i c hc'
    have hci : cs[i]? = some c := by
      unfold bJ at hc'
      rw [List.getD_eq_getElem?_getD, List.getElem?_map] at hc'
      cases hx : cs[i]? with
      | none => rw [hx] at hc'; simp at hc'
      | some y => rw [hx] at hc'; simpa using hc'
    have hin : i < n := by rw [← hl]; exact (List.getElem?_eq_some_iff.1 hci).1
    obtain ⟨c2, h1, h2⟩ := hg i (fn.ntmps + i) (by rw [List.getElem?_map, List.getElem?_range hin]; rfl)
    rw [hci] at h1
    cases h1
    exact ⟨hin, hci, h2⟩
  refine ⟨hl, hfl, hfc', u, fun g => (Ow g).bind (aJl lr' fn.ntmps), aBj fn.ntmps s w F bm, hrun, ⟨rfl, fun t => ?_, fun i c hc => ?_, h.low.to (zC h _) (Nat.le_refl _), fun g hg' => ⟨(hnone g (h.new g hg').2).trans (h.new g hg').1, by simp [(h.new g hg').2]⟩, fun i c hc => h.bmn _ c (hbox i c hc).2.2, fun g hz => ⟨by simp [(h.zow g hz).1], (h.zow g hz).2⟩⟩, hk, fun g hg' => ⟨hnone g hg', by simp [hg']⟩⟩
  · cases t with
    | zero =>
      simp only [List.getD_cons_zero]
      exact hrep'.flat hfl fun _ g hg' => by rw [hg']; simp [aJl]
    | succ t => exact aZ.any
  · obtain ⟨hin, hci, h2⟩ := hbox i c hc
    obtain ⟨cur, e, g1, g2, g3, g4, g5⟩ := h.box _ _ h2
    obtain ⟨n1, n2⟩ := hne (fn.ntmps + i) (by omega) (by omega)
    refine ⟨cur, e, g1, g2, (aF8 h g4 (fun b hb => by simp; omega)).trans g3, ?_, fun j x y hx hy => ((g5 j x y hx hy).to hk (fun b hb => ⟨rfl, hb⟩) fun _ g hg => ⟨rfl, aF8 h hg (fun b _ => by simp), hg⟩).flat (aC1 (hfc' c (List.mem_of_getElem? hci) x (List.mem_of_getElem? hx))) fun _ g hg' => ?_⟩
    · rw [g4]
      simp [aJl, n1.symm]
    · rw [hg']
      simp [aJl, (n2 j).symm]
theorem aSA {D : (cA m)} {H : gN} {loop : ((St m) → Option (Out m)) → ((St m) → Option (St m)) → (St m) → Option (Out m)} : ∀ (c : Code) (blk : Nat) {β : Type} (k : (Out m) → Option β) (y : β) (s : (St m)), eW P D H loop blk c s k = some y → ∃ out, k out = some y := by
  intro c
  induction c with
  | skip => intro blk β k y s h; exact ⟨_, h⟩
  | region id ops draw =>
    intro blk β k y s h
    simp only [eW] at h
    obtain ⟨_, h⟩ := bS h
    rw [nL, Option.bind_eq_some_iff] at h
    obtain ⟨s', _, h⟩ := h
    exact ⟨_, h⟩
  | seq c1 c2 ih1 ih2 =>
    intro blk β k y s h
    simp only [eW] at h
    obtain ⟨out, ho⟩ := ih1 blk _ y s h
    cases out with
    | norm s' => exact ih2 blk k y s' ho
    | exit id s' => exact ⟨_, ho⟩
    | ret s' => exact ⟨_, ho⟩
  | cond x c1 c2 ih1 ih2 =>
    intro blk β k y s h
    simp only [eW] at h
    obtain ⟨b, _, h⟩ := uX h
    rw [pC] at h
    split at h
    · exact ih1 blk k y _ h
    · exact ih2 blk k y _ h
  | block id c ih =>
    intro blk β k y s h
    simp only [eW] at h
    obtain ⟨out, ho⟩ := ih id _ y s h
    cases out with
    | norm s' => exact ⟨_, ho⟩
    | exit id' s' =>
      simp only [wN] at ho
      split at ho
      · exact ⟨_, ho⟩
      · exact ⟨_, ho⟩
    | ret s' => exact ⟨_, ho⟩
  | loop c ih =>
    intro blk β k y s h
    simp only [eW] at h
    rw [Option.bind_eq_some_iff] at h
    obtain ⟨out, _, h⟩ := h
    exact ⟨out, h⟩
  | exit id => intro blk β k y s h; exact ⟨_, h⟩
  | ret => intro blk β k y s h; exact ⟨_, h⟩
  | _ => intro blk β k y s h; simp [eW] at h
theorem aRZ (hP : P.follows .mixedOrders = true) (hG : P.funcs.all (fun fn => !(fn.name == "runtime.NumGoroutine")) = true) {D : (cA m)} (hD : mT P N D) (H : FuncId → gN) (n : Nat) : mT P N (aOB P D H (aGS n)) := by
  intro f args boxes r hr hh hf
  unfold aOB at hr
  split at hr
  · rename_i fn hfn
    split at hr
    · rename_i c hc
      have hname : (fn.name == "runtime.NumGoroutine") = false := by
        rw [Array.all_eq_true_iff_forall_mem] at hG
        have := hG fn (Array.mem_of_getElem? hfn)
        simpa using this
      have base : ∀ (w : World) (F : Fr) (Ow : Own) (bm : Nat → Nat) (vals : Array Value), Inv P { tmps := args, boxes := boxes.map some } vals w F N Ow bm →
          Calls P f vals w fun e w' => ∃ v F' Ow', e = .returned v ∧ Inv P { tmps := [r.1], boxes := r.2.map some } #[v] w' F' N Ow' bm ∧ Far N w F Ow w' F' Ow' := by
        intro w F Ow bm vals h
        refine calls_of_wp hfn hc ?_
        have h1 := h.frame fn hh hf
        have hlen : (aA1 fn args boxes).boxes.length = fn.ntmps + boxes.length := by simp [aA1]
        refine aNc (nt := fn.ntmps) hP hD rfl n (fn.ntmps + boxes.length) (by omega) c 0 _ r (aA1 fn args boxes) _ w F _ _ _ hr h1 hlen fun out ex a' w' ho he => ?_
        have fin : ∀ s', aFU P fn boxes.length s' = some r → mG P N fn.ntmps s' { tmps := vals ++ Array.replicate (fn.ntmps - vals.size) undef, defers := [] } w F (fun g => (Ow g).bind (aLW fn.ntmps)) (fun b => bm (b - fn.ntmps)) a' w' →
            a'.defers = [] ∧ ∃ v, (results fn a'.tmps).run P w' = .ok v w' ∧ ∃ v1 F' Ow', Ending.returned v = .returned v1 ∧ Inv P { tmps := [r.1], boxes := r.2.map some } #[v1] w' F' N Ow' bm ∧ Far N w F Ow w' F' Ow' := by
          intro s' hl hst
          obtain ⟨F1, O1, b1, k1, k2, k3, k4⟩ := hst
          obtain ⟨l1, l2, l3, u, O2, F2, l4, l5, l7, l6⟩ := k1.leave hl
          refine ⟨k4, u, l4, u, F2, O2, rfl, ?_, ⟨k2.os, k2.tape, k2.output, k2.size, k2.keeps.trans l7, fun g hg ho => ?_⟩⟩
          · have : (fun i => b1 (fn.ntmps + i)) = bm := by
              funext i
              rw [k3 (fn.ntmps + i) (by omega)]
              show bm (fn.ntmps + i - fn.ntmps) = bm i
              rw [Nat.add_sub_cancel_left]
            rw [this] at l5
            exact l5
          · obtain ⟨q1, q2, q3⟩ := k2.old g hg (by simp [ho])
            exact ⟨q1, (l6 g q3).1.trans q2, (l6 g q3).2⟩
        cases out <;> cases ex <;> simp only [aCt] at he
        · exact fin _ ho he.1
        · simp [aNH] at ho
        · exact fin _ ho he.1
      have shape : r.2.length = boxes.length ∧ r.1.flatT = true ∧ (∀ cs ∈ r.2, ∀ c ∈ cs, c.flat = true) := by
        obtain ⟨out, ho⟩ := aSA c 0 _ r _ hr
        have lv : ∀ s', aFU P fn boxes.length s' = some r → r.2.length = boxes.length ∧ r.1.flatT = true ∧ (∀ cs ∈ r.2, ∀ c ∈ cs, c.flat = true) := by
          intro s' hl
          unfold aFU at hl
          rw [Option.bind_eq_some_iff] at hl
          obtain ⟨v, hv, hl⟩ := hl
          obtain ⟨hfl, hl⟩ := bS hl
          rw [Option.bind_eq_some_iff] at hl
          obtain ⟨cs, hcs, hl⟩ := hl
          obtain ⟨hfc, hl⟩ := bS hl
          simp only [Option.some.injEq] at hl
          subst hl
          exact ⟨by simpa using (vA hcs).1, hfl, fun c hc x hx => List.all_eq_true.1 (List.all_eq_true.1 hfc c hc) x hx⟩
        cases out with
        | norm s => exact lv s ho
        | ret s => exact lv s ho
        | exit id s => simp [aNH] at ho
      exact ⟨shape.1, shape.2.1, shape.2.2, ⟨fn, hfn, hname, by rw [hc]; rfl⟩, base⟩
    · simp at hr
  · simp at hr
end
end Go.Vs
end
section
namespace Go.Vs
variable {m : Bool}
variable {P : Program} {N : Env}
def aNa (P : Program) (N : Env) (T : (aLL m)) : Prop := ∀ (f : FuncId) t, T f = some t → mT P N (fun g args boxes => if g = f then t args boxes else none)
theorem aL8 (hP : P.follows .mixedOrders = true) (hG : P.funcs.all (fun fn => !(fn.name == "runtime.NumGoroutine")) = true) {T : (aLL m)} (hT : aNa P N T) (H : FuncId → gN) : ∀ n, mT P N (aBz P T H n)
  | 0 => by intro f args boxes r hr; simp [aBz] at hr
  | n + 1 => by
    intro f args boxes r hr
    simp only [aBz] at hr
    split at hr
    · rename_i t ht
      exact hT f t ht f args boxes r (by simpa using hr)
    · exact aRZ hP hG (aL8 hP hG hT H n) H n f args boxes r hr
def Le {α : Type} (x y : Option α) : Prop := ∀ a, x = some a → y = some a
theorem aPv : aNa (m := m) P N (fun _ => none) := by intro f t h; simp at h
end Go.Vs
end
section
set_option linter.unusedVariables false
set_option linter.unusedSimpArgs false
namespace Go.Vs
variable {m : Bool}
variable {P : Program}
def DLe (D D' : (cA m)) : Prop := ∀ f a b r, D f a b = some r → D' f a b = some r
theorem aUM {D D' : (cA m)} {nt : Nat} {mv pu ta : Bool} {o : Oper} {ρ : Operand → (SV m)} {bs : (gW m)} (h : ∀ c g, o.op = .call c → c.callee ≠ .value g) : dD P D nt mv pu ta o ρ bs = dD P D' nt mv pu ta o ρ bs := by
  cases hop : o.op
  case call c =>
    cases hc : c.callee with
    | value g => exact absurd hc (h c g hop)
    | builtin b => simp only [dD, hop, hc]
    | invoke r m => simp only [dD, hop, hc]
  all_goals simp only [dD, hop]
theorem aVi {D D' : (cA m)} {bs : (gW m)} {pu : Bool} {f : FuncId} {args : List (SV m)} {q : (SV m) × Option (gW m)} (h : aBw D bs pu f args = some q) (hD : ∀ g a b r, D g a b = some r → D' g a b = some r) : aBw D' bs pu f args = some q := by
  unfold aBw at h ⊢
  obtain ⟨h1, h2⟩ := bS h
  rw [h1]
  simp only [aA]
  split at h2
  · rename_i hp
    rw [if_pos hp]
    split at h2
    · rename_i hi
      rw [if_pos hi]
      rw [Option.map_eq_some_iff] at h2 ⊢
      obtain ⟨r, hr, he⟩ := h2
      exact ⟨r, hD _ _ _ _ hr, he⟩
    · simp at h2
  · rename_i hp
    rw [if_neg hp]
    rw [Option.bind_eq_some_iff] at h2 ⊢
    obtain ⟨cs, hcs, h3⟩ := h2
    refine ⟨cs, hcs, ?_⟩
    obtain ⟨h4, h5⟩ := bS h3
    rw [h4]
    simp only
    rw [Option.map_eq_some_iff] at h5 ⊢
    obtain ⟨r, hr, he⟩ := h5
    exact ⟨r, hD _ _ _ _ hr, he⟩
theorem aQW {D : (cA m)} {bs : (gW m)} {pu : Bool} {f : FuncId} {args : List (SV m)} {q : (SV m) × Option (gW m)} (h : aBw D bs pu f args = some q) : ∃ a b r, D f a b = some r ∧ ∀ D' : (cA m), D' f a b = some r → aBw D' bs pu f args = some q := by
  unfold aBw at h
  obtain ⟨h1, h2⟩ := bS h
  split at h2
  · rename_i hp
    split at h2
    · rename_i hi
      rw [Option.map_eq_some_iff] at h2
      obtain ⟨r, hr, he⟩ := h2
      refine ⟨args, [], r, hr, fun D' hd => ?_⟩
      unfold aBw
      rw [h1]
      simp only [aA, if_pos hp, if_pos hi, hd, Option.map_some, he]
    · simp at h2
  · rename_i hp
    rw [Option.bind_eq_some_iff] at h2
    obtain ⟨cs, hcs, h3⟩ := h2
    obtain ⟨h4, h5⟩ := bS h3
    rw [Option.map_eq_some_iff] at h5
    obtain ⟨r, hr, he⟩ := h5
    refine ⟨_, cs, r, hr, fun D' hd => ?_⟩
    unfold aBw
    rw [h1]
    simp only [aA, if_neg hp, hcs, Option.bind_some, h4, hd, Option.map_some, he]
theorem aOb {D : (cA m)} {nt : Nat} {mv pu ta : Bool} {o : Oper} {ρ : Operand → (SV m)} {bs : (gW m)} {e : (Eff m)} (h : dD P D nt mv pu ta o ρ bs = some e) :
    (∀ D', dD P D' nt mv pu ta o ρ bs = some e) ∨ ∃ f a b r, D f a b = some r ∧ ∀ D' : (cA m), D' f a b = some r → dD P D' nt mv pu ta o ρ bs = some e := by
  by_cases hv : ∀ c g, o.op = .call c → c.callee ≠ .value g
  · exact .inl fun D' => by rw [← aUM (D := D) hv]; exact h
  · right
    have : ∃ c g, o.op = .call c ∧ c.callee = .value g := by
      refine Classical.byContradiction fun hn => hv fun c g hop hc => hn ⟨c, g, hop, hc⟩
    obtain ⟨c, g, hop, hc⟩ := this
    simp only [dD, hop, hc] at h ⊢
    split at h
    · rename_i f caps hge
      obtain ⟨h1, h2⟩ := bS h
      rw [Option.map_eq_some_iff] at h2
      obtain ⟨q, hq, he⟩ := h2
      obtain ⟨a, b, r, hr, hall⟩ := aQW hq
      refine ⟨f, a, b, r, hr, fun D' hd => ?_⟩
      simp only [h1, aA, hall D' hd, Option.map_some, he]
    · simp at h
section
variable {nt : Nat} {mv pu ta : Nat → Bool} {ops : Array Oper}
theorem aQj {D : (cA m)} {mq p qa : Bool} {o : Oper} {s : (St m)} {e : (Eff m)} (h : nH P D nt mq p qa ops o s = some e) :
    (∀ D', nH P D' nt mq p qa ops o s = some e) ∨ ∃ f a b r, D f a b = some r ∧ ∀ D' : (cA m), D' f a b = some r → nH P D' nt mq p qa ops o s = some e := by
  unfold nH at h ⊢
  split at h
  · exact aOb h
  · rename_i j want hg
    split at h
    · rename_i t ht
      unfold qL at h ⊢
      split at h
      · rename_i b hb
        rw [pC] at h
        split at h
        · rename_i hbw
          simp only [pC, hbw, if_true]
          exact aOb h
        · rename_i hbw
          simp only [pC, hbw]
          exact .inl fun _ => h
      · exact .inl fun _ => h
      · simp at h
    · simp at h
structure aUq (Dn : Nat → (cA m)) (D : (cA m)) : Prop where
  mono : ∀ n m, n ≤ m → DLe (Dn n) (Dn m)
  lim : ∀ f a b r, D f a b = some r → ∃ n, Dn n f a b = some r
theorem aHI {Dn : Nat → (cA m)} {D : (cA m)} (hC : aUq Dn D) : ∀ (l : List Oper) (i : Nat) (s s' : (St m)), lN P D nt mv pu ta ops l i s some = some s' → ∃ n, ∀ m, n ≤ m → lN P (Dn m) nt mv pu ta ops l i s some = some s'
  | [], i, s, s', h => ⟨0, fun _ _ => h⟩
  | o :: l, i, s, s', h => by
    simp only [lN, aAH] at h
    obtain ⟨e, he, hrest⟩ := Option.bind_eq_some_iff.1 h
    obtain ⟨n2, h2⟩ := aHI hC l (i + 1) _ s' hrest
    have h1 : ∃ n, ∀ m, n ≤ m → nH P (Dn m) nt (mv i) (pu i) (ta i) ops o s = some e := by
      rcases aQj he with hx | ⟨f, a, b, r, hr, hx⟩
      · exact ⟨0, fun m _ => hx _⟩
      · obtain ⟨n, hn⟩ := hC.lim f a b r hr
        exact ⟨n, fun m hm => hx _ (hC.mono n m hm _ _ _ _ hn)⟩
    obtain ⟨n1, h1⟩ := h1
    refine ⟨max n1 n2, fun m hm => ?_⟩
    simp only [lN, aAH]
    rw [h1 m (by omega), Option.bind_some]
    exact h2 m (by omega)
end
theorem jF {D : (cA m)} {H : gN} {loop : ((St m) → Option (Out m)) → ((St m) → Option (St m)) → (St m) → Option (Out m)} : ∀ (c : Code) (blk : Nat) {β : Type} (k : (Out m) → Option β) (s : (St m)), eW P D H loop blk c s k = (eW P D H loop blk c s some).bind k := by
  intro c
  induction c with
  | skip => intro blk β k s; rfl
  | region id ops draw =>
    intro blk β k s
    simp only [eW]
    cases hb : (!draw || aAX (H.mv id) (H.pure id) (H.take id) ops) with
    | false => rfl
    | true =>
      simp only [aA]
      rw [nL, nL (k := fun s' => some (Out.norm ((s'.tidy (H.after id) (H.afterB id)).freeze (H.fz id)))), Option.bind_assoc]
      rfl
  | seq c1 c2 ih1 ih2 =>
    intro blk β k s
    simp only [eW]
    refine (ih1 blk _ s).trans (Eq.trans ?_ (congrArg (fun x => Option.bind x k) (ih1 blk _ s).symm))
    rw [Option.bind_assoc]
    congr 1
    funext o
    cases o with
    | norm s' => exact ih2 blk k s'
    | exit id s' => rfl
    | ret s' => rfl
  | cond x c1 c2 ih1 ih2 =>
    intro blk β k s
    simp only [eW]
    unfold pK
    split
    · rename_i b _
      cases b
      · exact ih2 blk k _
      · exact ih1 blk k _
    · rfl
  | block id c ih =>
    intro blk β k s
    simp only [eW]
    refine (ih id _ s).trans (Eq.trans ?_ (congrArg (fun x => Option.bind x k) (ih id _ s).symm))
    rw [Option.bind_assoc]
    congr 1
    funext o
    cases o with
    | norm s' => rfl
    | exit id' s' => simp only [wN, Option.bind_some]; split <;> rfl
    | ret s' => rfl
  | loop c ih =>
    intro blk β k s
    simp only [eW, Option.bind_some]
    cases loop (fun s => eW P D H loop blk c s some) (fun s => s.again (H.clear blk) (H.drop blk)) s <;> rfl
  | exit id => intro blk β k s; rfl
  | ret => intro blk β k s; rfl
  | _ => intro blk β k s; rfl
theorem vB {body body' : (St m) → Option (Out m)} {again : (St m) → Option (St m)} (hb : ∀ s o, body s = some o → body' s = some o) : ∀ (n m : Nat), n ≤ m → ∀ s o, rounds body again n s = some o → rounds body' again m s = some o
  | 0, _, _, s, o, h => by simp [rounds] at h
  | n + 1, 0, hm, _, _, _ => by omega
  | n + 1, m + 1, hm, s, o, h => by
    simp only [rounds] at h ⊢
    rw [Option.bind_eq_some_iff] at h
    obtain ⟨s2, ha, h⟩ := h
    rw [Option.bind_eq_some_iff] at h
    obtain ⟨o2, h2, h⟩ := h
    rw [ha, Option.bind_some, hb _ _ h2, Option.bind_some]
    cases o2 with
    | norm s' => exact vB hb n m (by omega) s' o h
    | exit id s' => exact h
    | ret s' => exact h
noncomputable def bP : ((St m) → Option (Out m)) → ((St m) → Option (St m)) → (St m) → Option (Out m) := fun body again s =>
  open Classical in if h : ∃ n o, rounds body again n s = some o then some (Classical.choose (Classical.choose_spec h)) else none
theorem aCu {body : (St m) → Option (Out m)} {again : (St m) → Option (St m)} {s : (St m)} {o : (Out m)} : bP body again s = some o ↔ ∃ n, rounds body again n s = some o := by
  unfold bP
  constructor
  · intro h
    split at h
    · rename_i hx
      simp only [Option.some.injEq] at h
      subst h
      exact ⟨_, Classical.choose_spec (Classical.choose_spec hx)⟩
    · simp at h
  · rintro ⟨n, hn⟩
    have hx : ∃ n o, rounds body again n s = some o := ⟨n, o, hn⟩
    rw [dif_pos hx]
    have h1 := Classical.choose_spec (Classical.choose_spec hx)
    have h2 := vB (body := body) (again := again) (fun _ _ h => h) _ (max n (Classical.choose hx)) (Nat.le_max_right _ _) s _ h1
    have h3 := vB (body := body) (again := again) (fun _ _ h => h) n (max n (Classical.choose hx)) (Nat.le_max_left _ _) s _ hn
    rw [h2] at h3
    exact h3
theorem aKO (body : (St m) → Option (Out m)) (again : (St m) → Option (St m)) (s : (St m)) : bP body again s = (again s).bind fun s => (body s).bind fun | .norm s' => bP body again s' | o => some o := by
  apply Option.ext
  intro o
  rw [aCu]
  constructor
  · rintro ⟨n, hn⟩
    cases n with
    | zero => simp [rounds] at hn
    | succ n =>
      simp only [rounds] at hn
      rw [Option.bind_eq_some_iff] at hn ⊢
      obtain ⟨s2, ha, h⟩ := hn
      refine ⟨s2, ha, ?_⟩
      rw [Option.bind_eq_some_iff] at h ⊢
      obtain ⟨o2, h2, h⟩ := h
      refine ⟨o2, h2, ?_⟩
      cases o2 with
      | norm s' => exact aCu.2 ⟨n, h⟩
      | exit id s' => exact h
      | ret s' => exact h
  · intro h
    rw [Option.bind_eq_some_iff] at h
    obtain ⟨s2, ha, h⟩ := h
    rw [Option.bind_eq_some_iff] at h
    obtain ⟨o2, h2, h⟩ := h
    cases o2 with
    | norm s' =>
      obtain ⟨n, hn⟩ := aCu.1 h
      exact ⟨n + 1, by simp only [rounds]; rw [ha, Option.bind_some, h2, Option.bind_some]; exact hn⟩
    | exit id s' => exact ⟨1, by simp only [rounds]; rw [ha, Option.bind_some, h2, Option.bind_some]; exact h⟩
    | ret s' => exact ⟨1, by simp only [rounds]; rw [ha, Option.bind_some, h2, Option.bind_some]; exact h⟩
theorem aOn {Dn : Nat → (cA m)} {D : (cA m)} (hC : aUq Dn D) {H : gN} : ∀ (c : Code) (blk : Nat) (s : (St m)) (o : (Out m)), eW P D H bP blk c s some = some o → ∃ n, ∀ m, n ≤ m → eW P (Dn m) H (aGS m) blk c s some = some o := by
  intro c
  induction c with
  | skip => intro blk s o h; exact ⟨0, fun _ _ => h⟩
  | region id ops draw =>
    intro blk s o h
    simp only [eW] at h ⊢
    obtain ⟨hg, h⟩ := bS h
    rw [nL, Option.bind_eq_some_iff] at h
    obtain ⟨s', hs, ho⟩ := h
    obtain ⟨n, hn⟩ := aHI hC _ _ _ _ hs
    refine ⟨n, fun m hm => ?_⟩
    rw [hg]
    simp only [aA]
    rw [nL, hn m hm, Option.bind_some]
    exact ho
  | seq c1 c2 ih1 ih2 =>
    intro blk s o h
    simp only [eW] at h ⊢
    rw [jF, Option.bind_eq_some_iff] at h
    obtain ⟨o1, h1, h2⟩ := h
    obtain ⟨n1, hn1⟩ := ih1 blk s o1 h1
    cases o1 with
    | norm s' =>
      obtain ⟨n2, hn2⟩ := ih2 blk s' o h2
      refine ⟨max n1 n2, fun m hm => ?_⟩
      rw [jF, hn1 m (by omega), Option.bind_some]
      exact hn2 m (by omega)
    | exit id s' => exact ⟨n1, fun m hm => by rw [jF, hn1 m hm, Option.bind_some]; exact h2⟩
    | ret s' => exact ⟨n1, fun m hm => by rw [jF, hn1 m hm, Option.bind_some]; exact h2⟩
  | cond x c1 c2 ih1 ih2 =>
    intro blk s o h
    simp only [eW] at h ⊢
    obtain ⟨b, hb, h⟩ := uX h
    rw [hb]
    simp only [pK]
    cases b
    · exact ih2 blk _ o h
    · exact ih1 blk _ o h
  | block id c ih =>
    intro blk s o h
    simp only [eW] at h ⊢
    rw [jF, Option.bind_eq_some_iff] at h
    obtain ⟨o1, h1, h2⟩ := h
    obtain ⟨n1, hn1⟩ := ih id s o1 h1
    exact ⟨n1, fun m hm => by rw [jF, hn1 m hm, Option.bind_some]; exact h2⟩
  | loop c ih =>
    intro blk s o h
    simp only [eW, Option.bind_some] at h ⊢
    rw [Option.bind_eq_some_iff] at h
    obtain ⟨o1, h1, h2⟩ := h
    simp only [Option.some.injEq] at h2
    subst h2
    obtain ⟨n, hn⟩ := aCu.1 h1
    have key : ∀ (n : Nat) (s : (St m)), rounds (fun s => eW P D H bP blk c s some) (fun s => s.again (H.clear blk) (H.drop blk)) n s = some o1 → ∃ n1, ∀ m, n1 ≤ m → rounds (fun s => eW P (Dn m) H (aGS m) blk c s some) (fun s => s.again (H.clear blk) (H.drop blk)) n s = some o1 := by
      intro n
      induction n with
      | zero => intro s h; simp [rounds] at h
      | succ n ihn =>
        intro s h
        simp only [rounds] at h ⊢
        rw [Option.bind_eq_some_iff] at h
        obtain ⟨s2, ha, h⟩ := h
        rw [Option.bind_eq_some_iff] at h
        obtain ⟨o2, h2, h⟩ := h
        obtain ⟨n1, hn1⟩ := ih blk s2 o2 h2
        cases o2 with
        | norm s' =>
          obtain ⟨n2, hn2⟩ := ihn s' h
          exact ⟨max n1 n2, fun m hm => by rw [ha, Option.bind_some, hn1 m (by omega), Option.bind_some]; exact hn2 m (by omega)⟩
        | exit id s' => exact ⟨n1, fun m hm => by rw [ha, Option.bind_some, hn1 m hm, Option.bind_some]; exact h⟩
        | ret s' => exact ⟨n1, fun m hm => by rw [ha, Option.bind_some, hn1 m hm, Option.bind_some]; exact h⟩
    obtain ⟨n1, hn1⟩ := key n s hn
    refine ⟨max n n1, fun m hm => ?_⟩
    have h3 := hn1 m (by omega)
    have h4 := vB (fun _ _ h => h) n m (by omega) s o1 h3
    show ((aGS m) _ _ s).bind some = some o1
    simp only [aGS]
    rw [h4]
    rfl
  | exit id => intro blk s o h; exact ⟨0, fun _ _ => h⟩
  | ret => intro blk s o h; exact ⟨0, fun _ _ => h⟩
  | _ => intro blk s o h; simp [eW] at h
theorem aPw {nt : Nat} {mv pu ta : Nat → Bool} {ops : Array Oper} {D D' : (cA m)} (hD : DLe D D') (l : List Oper) (i : Nat) (s s' : (St m)) (h : lN P D nt mv pu ta ops l i s some = some s') : lN P D' nt mv pu ta ops l i s some = some s' := by
  obtain ⟨n, hn⟩ := aHI (Dn := fun _ => D') (D := D) ⟨fun _ _ _ _ _ _ _ h => h, fun f a b r h => ⟨0, hD f a b r h⟩⟩ l i s s' h
  exact hn n (Nat.le_refl _)
theorem aQL {D D' : (cA m)} (hD : DLe D D') {H : gN} {n n' : Nat} (hn : n ≤ n') : ∀ (c : Code) (blk : Nat) (s : (St m)) (o : (Out m)), eW P D H (aGS n) blk c s some = some o → eW P D' H (aGS n') blk c s some = some o := by
  intro c
  induction c with
  | skip => intro blk s o h; exact h
  | region id ops draw =>
    intro blk s o h
    simp only [eW] at h ⊢
    obtain ⟨hg, h⟩ := bS h
    rw [nL, Option.bind_eq_some_iff] at h
    obtain ⟨s', hs, ho⟩ := h
    rw [hg]
    simp only [aA]
    rw [nL, aPw hD _ _ _ _ hs, Option.bind_some]
    exact ho
  | seq c1 c2 ih1 ih2 =>
    intro blk s o h
    simp only [eW] at h ⊢
    rw [jF, Option.bind_eq_some_iff] at h
    obtain ⟨o1, h1, h2⟩ := h
    rw [jF, ih1 blk s o1 h1, Option.bind_some]
    cases o1 with
    | norm s' => exact ih2 blk s' o h2
    | exit id s' => exact h2
    | ret s' => exact h2
  | cond x c1 c2 ih1 ih2 =>
    intro blk s o h
    simp only [eW] at h ⊢
    obtain ⟨b, hb, h⟩ := uX h
    rw [hb]
    simp only [pK]
    cases b
    · exact ih2 blk _ o h
    · exact ih1 blk _ o h
  | block id c ih =>
    intro blk s o h
    simp only [eW] at h ⊢
    rw [jF, Option.bind_eq_some_iff] at h
    obtain ⟨o1, h1, h2⟩ := h
    rw [jF, ih id s o1 h1, Option.bind_some]
    exact h2
  | loop c ih =>
    intro blk s o h
    simp only [eW] at h ⊢
    rw [Option.bind_eq_some_iff] at h
    obtain ⟨o1, h1, h2⟩ := h
    simp only [aGS] at h1 ⊢
    rw [vB (fun s o h => ih blk s o h) n n' hn s o1 h1, Option.bind_some]
    exact h2
  | exit id => intro blk s o h; exact h
  | ret => intro blk s o h; exact h
  | _ => intro blk s o h; simp [eW] at h
theorem aDp {T : (aLL m)} {H : FuncId → gN} : ∀ (n m : Nat), n ≤ m → DLe (aBz P T H n) (aBz P T H m)
  | 0, _, _ => by intro f a b r h; simp [aBz] at h
  | n + 1, 0, h => by omega
  | n + 1, m + 1, hm => by
    intro f a b r h
    simp only [aBz] at h ⊢
    cases ht : T f with
    | some t => rw [ht] at h; exact h
    | none =>
      rw [ht] at h
      simp only at h ⊢
      unfold aOB at h ⊢
      cases hfn : P.funcs[f]? with
      | none => rw [hfn] at h; simp at h
      | some fn =>
        rw [hfn] at h
        simp only at h ⊢
        cases hc : fn.body with
        | none => rw [hc] at h; simp at h
        | some c =>
          rw [hc] at h
          simp only at h ⊢
          rw [jF, Option.bind_eq_some_iff] at h ⊢
          obtain ⟨o, ho, hk⟩ := h
          exact ⟨o, aQL (aDp n m (by omega)) (by omega) c 0 _ o ho, hk⟩
noncomputable def den (P : Program) (T : (aLL m)) (H : FuncId → gN) : (cA m) := fun f a b =>
  open Classical in if h : ∃ n r, aBz P T H n f a b = some r then some (Classical.choose (Classical.choose_spec h)) else none
theorem aL2 {T : (aLL m)} {H : FuncId → gN} {f : FuncId} {a : List (SV m)} {b : List (List (SV m))} {r : (SV m) × List (List (SV m))} : den P T H f a b = some r ↔ ∃ n, aBz P T H n f a b = some r := by
  unfold den
  constructor
  · intro h
    split at h
    · rename_i hx
      simp only [Option.some.injEq] at h
      subst h
      exact ⟨_, Classical.choose_spec (Classical.choose_spec hx)⟩
    · simp at h
  · rintro ⟨n, hn⟩
    have hx : ∃ n r, aBz P T H n f a b = some r := ⟨n, r, hn⟩
    rw [dif_pos hx]
    have h1 := Classical.choose_spec (Classical.choose_spec hx)
    have h2 := aDp _ (max n (Classical.choose hx)) (Nat.le_max_right _ _) _ _ _ _ h1
    have h3 := aDp n (max n (Classical.choose hx)) (Nat.le_max_left _ _) _ _ _ _ hn
    rw [h2] at h3
    exact h3
theorem aKB {N : Env} (hP : P.follows .mixedOrders = true) (hG : P.funcs.all (fun fn => !(fn.name == "runtime.NumGoroutine")) = true) {T : (aLL m)} (hT : aNa P N T) (H : FuncId → gN) : mT P N (den P T H) := by
  intro f a b r h
  obtain ⟨n, hn⟩ := aL2.1 h
  exact aL8 hP hG hT H n f a b r hn
theorem aUg {T : (aLL m)} {H : FuncId → gN} {f : FuncId} {a : List (SV m)} {b : List (List (SV m))} {r : (SV m) × List (List (SV m))} (hT : T f = none) (h : aOB P (den P T H) H bP f a b = some r) : den P T H f a b = some r := by
  refine aL2.2 ?_
  unfold aOB at h
  split at h
  · rename_i fn hfn
    split at h
    · rename_i c hc
      rw [jF, Option.bind_eq_some_iff] at h
      obtain ⟨o, ho, hk⟩ := h
      obtain ⟨n, hn⟩ := aOn (Dn := aBz P T H) ⟨fun n m h => aDp n m h, fun f a b r h => aL2.1 h⟩ c 0 _ o ho
      refine ⟨n + 1, ?_⟩
      simp only [aBz, hT]
      unfold aOB
      rw [hfn]
      simp only
      rw [hc]
      simp only
      rw [jF, hn n (Nat.le_refl _)]
      exact hk
    · simp at h
  · simp at h
theorem aQc {T : (aLL m)} {H : FuncId → gN} {f : FuncId} {t : List (SV m) → List (List (SV m)) → Option ((SV m) × List (List (SV m)))} {a : List (SV m)} {b : List (List (SV m))} {r : (SV m) × List (List (SV m))} (hT : T f = some t) (h : t a b = some r) : den P T H f a b = some r :=
  aL2.2 ⟨1, by simp only [aBz, hT]; exact h⟩
end Go.Vs
end
section
set_option linter.unusedVariables false
set_option linter.unusedSimpArgs false
namespace Go.Vs
variable {m : Bool}
section
variable {β : Type}
def dQ (k0 : IntKind) (l : (aE m)) (k : Int → Option β) : Option β := match l with | .int k1 n => if k1 = k0 then k n else none | _ => none
def dV (l : (aE m)) (k : Bool → Option β) : Option β := match l with | .bool b => k b | _ => none
def cO (l : (aE m)) (k : ByteArray → Option β) : Option β := match l with | .str s => k s | _ => none
def slK (l : (aE m)) (k : Fl m → List (List (aE m)) → Option β) : Option β := match l with | .sl c es => k c es | _ => none
def aK7 (P : Program) (t : TypeId) (l : (aE m)) (k : (aE m) → Option β) : Option β :=
  match P.underlying t with
  | some (.int k0) => dQ k0 l fun n => k (.int k0 n)
  | some .bool => dV l fun b => k (.bool b)
  | some .string => cO l fun s => k (.str s)
  | some (.slice _) => slK l fun c es => k (.sl c es)
  | _ => none
def atK (e : List (aE m)) (p : Nat) (k : (aE m) → Option β) : Option β := match e[p]? with | some l => k l | none => none
def vT (P : Program) : List TypeId → List (aE m) → Nat → (List (aE m) → Option β) → Option β
  | [], _, _, k => k []
  | t :: ts, e, p, k => atK e p fun l => aK7 P t l fun l' => vT P ts e (p + 1) fun ls => k (l' :: ls)
def aQP (P : Program) : Nat → TypeId → Option (List TypeId)
  | 0, _ => none
  | n + 1, t => match P.underlying t with
    | some (.struct fs) => fs.toList.foldr (fun f r => (aQP P n f.type).bind fun a => r.map (a ++ ·)) (some [])
    | some (.array _ _) | none => none
    | some _ => some [t]
def iI (e : List (aE m)) (k : List (aE m) → Option β) : Option β := k e
def aOe (P : Program) (t : TypeId) (e : List (aE m)) (p : Nat) (k : (SV m) → Option β) : Option β :=
  match qF P t with
  | true => (aQP P 8 t).bind fun ts => (eQ P t).bind fun n => if ts.length = n ∧ 0 < n then iI e fun e => vT P ts e p fun ls => k (.agg ls) else none
  | false => atK e p fun l => aK7 P t l fun l' => k (.leaf l')
def aP (v : (SV m)) (k : (aE m) → Option β) : Option β := match v with | .leaf l => k l | _ => none
def pY (v : (SV m)) (k : Fl m → List (List (aE m)) → Option β) : Option β := match v with | .leaf (.sl c es) => k c es | _ => none
def qH (e : TypeId) (v : (SV m)) (k : List (List (aE m)) → Option β) : Option β := match v with | .own (some e') es => if e' = e then k es else none | _ => none
def eV (v : (SV m)) (k : List (aE m) → Option β) : Option β := match v with | .agg cs => k cs | _ => none
def aHo (v : (SV m)) (k : Option β) : Option β := match v with | .nilface => k | _ => none
def mH (v : (SV m)) (k : List (SV m) → Option β) : Option β := match v with | .tup vs => k vs | _ => none
def aFJ (P : Program) (own : Bool) (t : TypeId) (v : (SV m)) (k : (SV m) → Option β) : Option β :=
  match P.underlying t with
  | some (.slice e) => (match own with
    | true => qH e v fun es => k (.own (some e) es)
    | false => pY v fun c es => k (.leaf (.sl c es)))
  | some (.struct _) => eV v fun cs => (aQP P 8 t).bind fun ts => aA (cs.length == ts.length) (vT P ts cs 0 fun ls => k (.agg ls))
  | some (.interface _) => aHo v (k .nilface)
  | some _ => aP v fun l => aK7 P t l fun l' => k (.leaf l')
  | none => none
def dK (l : List (SV m)) (k : (SV m) → List (SV m) → Option β) : Option β := match l with | v :: r => k v r | [] => none
def iX (l : List (SV m)) (k : Option β) : Option β := match l with | [] => k | _ => none
def aFR (P : Program) : List TypeId → List (SV m) → (List (SV m) → Option β) → Option β
  | [], l, k => iX l (k [])
  | t :: ts, l, k => dK l fun v r => aFJ P false t v fun v' => aFR P ts r fun vs => k (v' :: vs)
def aN1 (P : Program) (own : Bool) (t : TypeId) (v : (SV m)) (k : (SV m) → Option β) : Option β :=
  match P.underlying t with
  | some (.tuple ts) => mH v fun vs => aFR P ts.toList vs fun vs' => k (.tup vs')
  | _ => aFJ P own t v k
def aNN (c d : (SV m)) (k : (SV m) → Option β) : Option β :=
  match c with
  | .leaf (.int k0 _) => aP d fun l => dQ k0 l fun n => k (.leaf (.int k0 n))
  | .leaf (.bool _) => aP d fun l => dV l fun b => k (.leaf (.bool b))
  | .leaf (.str _) => aP d fun l => cO l fun s => k (.leaf (.str s))
  | .leaf (.sl _ _) => pY d fun c es => k (.leaf (.sl c es))
  | .own (some e) _ => qH e d fun es => k (.own (some e) es)
  | _ => none
def aFQ : List (SV m) → List (SV m) → (List (SV m) → Option β) → Option β
  | [], l, k => iX l (k [])
  | c :: cs, l, k => dK l fun d r => aNN c d fun d' => aFQ cs r fun ds => k (d' :: ds)
def aHz (cs : List (SV m)) (p : Nat) (k : (SV m) → Option β) : Option β := match cs[p]? with | some c => k c | none => none
def aS2 (P : Program) (t : TypeId) : Bool := match P.underlying t with | some (.int _) | some .bool | some .string | some (.slice _) => true | _ => false
def aNR (P : Program) (t : TypeId) (c : (SV m)) (k : (SV m) → Option β) : Option β := match aS2 P t with | true => aFJ P false t c.drop k | false => k c.drop
def rE (l : List (List (SV m))) (k : List (SV m) → List (List (SV m)) → Option β) : Option β := match l with | v :: r => k v r | [] => none
def mO (l : List (List (SV m))) (k : Option β) : Option β := match l with | [] => k | _ => none
def aTZ (row : Bool) (c d : List (SV m)) (k : List (SV m) → Option β) : Option β := match row with | true => k d | false => aFQ c d k
def aAT : List Bool → List (List (SV m)) → List (List (SV m)) → (List (List (SV m)) → Option β) → Option β
  | [], _, l, k => mO l (k [])
  | w :: ws, [], l, k => mO l (k [])
  | w :: ws, c :: cs, l, k => rE l fun d r => aTZ w c d fun d' => aAT ws cs r fun ds => k (d' :: ds)
end
section
variable {β : Type} {P : Program}
theorem aRy {k0 : IntKind} {l : (aE m)} {k : Int → Option β} {y : β} (h : dQ k0 l k = some y) : ∃ n, l = .int k0 n ∧ k n = some y := by
  unfold dQ at h
  split at h
  · split at h
    · rename_i hk; subst hk; exact ⟨_, rfl, h⟩
    · simp at h
  · simp at h
theorem aPm {l : (aE m)} {k : Bool → Option β} {y : β} (h : dV l k = some y) : ∃ n, l = .bool n ∧ k n = some y := by
  unfold dV at h; split at h
  · exact ⟨_, rfl, h⟩
  · simp at h
theorem aRm {l : (aE m)} {k : ByteArray → Option β} {y : β} (h : cO l k = some y) : ∃ n, l = .str n ∧ k n = some y := by
  unfold cO at h; split at h
  · exact ⟨_, rfl, h⟩
  · simp at h
theorem aUX {l : (aE m)} {k : Fl m → List (List (aE m)) → Option β} {y : β} (h : slK l k = some y) : ∃ c es, l = .sl c es ∧ k c es = some y := by
  unfold slK at h; split at h
  · exact ⟨_, _, rfl, h⟩
  · simp at h
theorem aMk {t : TypeId} {l : (aE m)} {k : (aE m) → Option β} {y : β} (h : aK7 P t l k = some y) : k l = some y := by
  unfold aK7 at h
  split at h
  · obtain ⟨n, rfl, h'⟩ := aRy h; exact h'
  · obtain ⟨n, rfl, h'⟩ := aPm h; exact h'
  · obtain ⟨n, rfl, h'⟩ := aRm h; exact h'
  · obtain ⟨c, es, rfl, h'⟩ := aUX h; exact h'
  · simp at h
theorem aTD {e : List (aE m)} {p : Nat} {k : (aE m) → Option β} {y : β} (h : atK e p k = some y) : ∃ l, e[p]? = some l ∧ k l = some y := by
  unfold atK at h; split at h
  · exact ⟨_, by assumption, h⟩
  · simp at h
theorem aFV : ∀ (ts : List TypeId) (e : List (aE m)) (p : Nat) (k : List (aE m) → Option β) (y : β), vT P ts e p k = some y → (e.drop p).take ts.length = (e.drop p).take ts.length ∧ (ts.length = 0 ∨ p + ts.length ≤ e.length) ∧ k ((e.drop p).take ts.length) = some y
  | [], e, p, k, y, h => ⟨rfl, .inl rfl, by simpa [vT] using h⟩
  | t :: ts, e, p, k, y, h => by
    simp only [vT] at h
    obtain ⟨l, hl, h⟩ := aTD h
    have h := aMk h
    obtain ⟨_, h2, h3⟩ := aFV ts e (p + 1) _ y h
    have hlt := (List.getElem?_eq_some_iff.1 hl).1
    have hd : e.drop p = l :: e.drop (p + 1) := by
      rw [List.drop_eq_getElem_cons hlt]
      congr 1
      exact (List.getElem?_eq_some_iff.1 hl).2
    refine ⟨rfl, .inr ?_, ?_⟩
    · simp only [List.length_cons]
      rcases h2 with h2 | h2 <;> omega
    · rw [hd]
      simpa using h3
theorem aTG {t : TypeId} {e : List (aE m)} {p : Nat} {k : (SV m) → Option β} {y : β} (h : aOe P t e p k = some y) : ∃ v, aDS P t e p = some v ∧ k v = some y := by
  unfold aOe at h
  unfold aDS
  split at h
  · rename_i ha
    rw [if_pos ha]
    rw [Option.bind_eq_some_iff] at h
    obtain ⟨ts, hts, h⟩ := h
    rw [Option.bind_eq_some_iff] at h
    obtain ⟨n, hn, h⟩ := h
    split at h
    · rename_i hl
      obtain ⟨_, h2, h3⟩ := aFV ts e p _ y h
      rw [hn]
      rw [hl.1] at h2 h3
      have hle : p + n ≤ e.length := by rcases h2 with h2 | h2 <;> omega
      exact ⟨.agg ((e.drop p).take n), by simp [hle], h3⟩
    · simp at h
  · rename_i ha
    rw [if_neg (by simp [ha])]
    obtain ⟨l, hl, h⟩ := aTD h
    have h := aMk h
    exact ⟨.leaf l, by rw [hl]; rfl, h⟩
theorem aDc {v : (SV m)} {k : (aE m) → Option β} {y : β} (h : aP v k = some y) : ∃ l, v = .leaf l ∧ k l = some y := by
  unfold aP at h; split at h
  · exact ⟨_, rfl, h⟩
  · simp at h
theorem aPr {v : (SV m)} {k : Fl m → List (List (aE m)) → Option β} {y : β} (h : pY v k = some y) : ∃ c es, v = .leaf (.sl c es) ∧ k c es = some y := by
  unfold pY at h; split at h
  · exact ⟨_, _, rfl, h⟩
  · simp at h
theorem aN8 {e : TypeId} {v : (SV m)} {k : List (List (aE m)) → Option β} {y : β} (h : qH e v k = some y) : ∃ es, v = .own (some e) es ∧ k es = some y := by
  unfold qH at h; split at h
  · split at h
    · rename_i he; subst he; exact ⟨_, rfl, h⟩
    · simp at h
  · simp at h
theorem aRU {v : (SV m)} {k : List (aE m) → Option β} {y : β} (h : eV v k = some y) : ∃ cs, v = .agg cs ∧ k cs = some y := by
  unfold eV at h; split at h
  · exact ⟨_, rfl, h⟩
  · simp at h
theorem aSk {v : (SV m)} {k : Option β} {y : β} (h : aHo v k = some y) : v = .nilface ∧ k = some y := by
  unfold aHo at h; split at h
  · exact ⟨rfl, h⟩
  · simp at h
theorem aSb {v : (SV m)} {k : List (SV m) → Option β} {y : β} (h : mH v k = some y) : ∃ vs, v = .tup vs ∧ k vs = some y := by
  unfold mH at h; split at h
  · exact ⟨_, rfl, h⟩
  · simp at h
theorem aPt {l : List (SV m)} {k : (SV m) → List (SV m) → Option β} {y : β} (h : dK l k = some y) : ∃ v r, l = v :: r ∧ k v r = some y := by
  unfold dK at h; split at h
  · exact ⟨_, _, rfl, h⟩
  · simp at h
theorem aPT {l : List (SV m)} {k : Option β} {y : β} (h : iX l k = some y) : l = [] ∧ k = some y := by
  unfold iX at h; split at h
  · exact ⟨rfl, h⟩
  · simp at h
theorem aJZ {own : Bool} {t : TypeId} {v : (SV m)} {k : (SV m) → Option β} {y : β} (h : aFJ P own t v k = some y) : k v = some y := by
  unfold aFJ at h
  split at h
  · split at h
    · obtain ⟨es, rfl, h'⟩ := aN8 h; exact h'
    · obtain ⟨c, es, rfl, h'⟩ := aPr h; exact h'
  · obtain ⟨cs, rfl, h'⟩ := aRU h
    rw [Option.bind_eq_some_iff] at h'
    obtain ⟨ts, hts, h2⟩ := h'
    obtain ⟨hl, h3⟩ := bS h2
    obtain ⟨_, _, h4⟩ := aFV ts cs 0 _ y h3
    have hl' : cs.length = ts.length := by simpa using hl
    rw [← hl', List.drop_zero, List.take_length] at h4
    exact h4
  · obtain ⟨rfl, h'⟩ := aSk h; exact h'
  · obtain ⟨l, rfl, h'⟩ := aDc h
    exact aMk h'
  · simp at h
theorem aOk : ∀ (ts : List TypeId) (l : List (SV m)) (k : List (SV m) → Option β) (y : β), aFR P ts l k = some y → k l = some y
  | [], l, k, y, h => by
    simp only [aFR] at h
    obtain ⟨rfl, h'⟩ := aPT h
    exact h'
  | t :: ts, l, k, y, h => by
    simp only [aFR] at h
    obtain ⟨v, r, rfl, h'⟩ := aPt h
    exact aOk ts r _ y (aJZ h')
theorem aSM {own : Bool} {t : TypeId} {v : (SV m)} {k : (SV m) → Option β} {y : β} (h : aN1 P own t v k = some y) : k v = some y := by
  unfold aN1 at h
  split at h
  · obtain ⟨vs, rfl, h'⟩ := aSb h
    exact aOk _ _ _ y h'
  · exact aJZ h
theorem aSW {c d : (SV m)} {k : (SV m) → Option β} {y : β} (h : aNN c d k = some y) : k d = some y := by
  unfold aNN at h
  split at h
  · obtain ⟨l, rfl, h1⟩ := aDc h; obtain ⟨n, rfl, h2⟩ := aRy h1; exact h2
  · obtain ⟨l, rfl, h1⟩ := aDc h; obtain ⟨n, rfl, h2⟩ := aPm h1; exact h2
  · obtain ⟨l, rfl, h1⟩ := aDc h; obtain ⟨n, rfl, h2⟩ := aRm h1; exact h2
  · obtain ⟨c, es, rfl, h1⟩ := aPr h; exact h1
  · obtain ⟨es, rfl, h1⟩ := aN8 h; exact h1
  · simp at h
theorem aOs : ∀ (cs l : List (SV m)) (k : List (SV m) → Option β) (y : β), aFQ cs l k = some y → k l = some y
  | [], l, k, y, h => by
    simp only [aFQ] at h
    obtain ⟨rfl, h'⟩ := aPT h
    exact h'
  | c :: cs, l, k, y, h => by
    simp only [aFQ] at h
    obtain ⟨v, r, rfl, h'⟩ := aPt h
    exact aOs cs r _ y (aSW h')
theorem aPI {l : List (List (SV m))} {k : List (List (SV m)) → Option β} {y : β} (h : mO l (k []) = some y) : k l = some y := by
  unfold mO at h
  split at h
  · exact h
  · simp at h
theorem aT4 {row : Bool} {c d : List (SV m)} {k : List (SV m) → Option β} {y : β} (h : aTZ row c d k = some y) : k d = some y := by
  cases row
  · exact aOs c d k y h
  · exact h
theorem aOp : ∀ (ws : List Bool) (cs l : List (List (SV m))) (k : List (List (SV m)) → Option β) (y : β), aAT ws cs l k = some y → k l = some y
  | [], _, l, k, y, h => aPI (by simpa only [aAT] using h)
  | w :: ws, [], l, k, y, h => aPI (by simpa only [aAT] using h)
  | w :: ws, c :: cs, l, k, y, h => by
    simp only [aAT] at h
    unfold rE at h
    split at h
    · rename_i v r
      have h2 := aT4 h
      exact aOp ws cs r (fun ds => k (v :: ds)) y h2
    · simp at h
theorem aTW {cs : List (SV m)} {p : Nat} {k : (SV m) → Option β} {y : β} (h : aHz cs p k = some y) : ∃ c, cs[p]? = some c ∧ k c = some y := by
  unfold aHz at h; split at h
  · exact ⟨_, by assumption, h⟩
  · simp at h
theorem aTI {t : TypeId} {c : (SV m)} {k : (SV m) → Option β} {y : β} (h : aNR P t c k = some y) : k c.drop = some y := by
  unfold aNR at h
  split at h
  · exact aJZ h
  · exact h
end
def aUn (op : BinOp) (k : IntKind) (a b : Int) : Option (Bool × (aE m)) :=
  match op with
  | .quo => some (!(b == 0), .int k (k.wrap (a.tdiv b)))
  | .rem => some (!(b == 0), .int k (a.tmod b))
  | .shl => some (decide (0 ≤ b), .int k (k.wrap (a * 2 ^ min b.toNat k.bits)))
  | .shr => some (decide (0 ≤ b), .int k (a.fdiv (2 ^ min b.toNat k.bits)))
  | op => (aEc op k a b).map fun l => (true, l)
def aUH (op : BinOp) (x y : ByteArray) : Option (Bool × (aE m)) :=
  match op with
  | .add => some (decide (x.size + y.size ≤ 140737488355328), .str (x ++ y))
  | op => (aN6 op x y).map fun l => (true, l)
def aU0 (P : Program) (op : BinOp) (t : TypeId) (x y : (SV m)) : Option (Bool × (SV m)) :=
  match x.drop, y.drop with
  | .leaf (.int k a), .leaf (.int k' b) =>
    if aLZ op = true then (aUn op k a b).map fun p => (p.1, .leaf p.2)
    else if k = k' then (aUn op k a b).map fun p => (p.1, .leaf p.2) else none
  | .leaf (.str a), .leaf (.str b) => (aUH op a b).map fun p => (p.1, .leaf p.2)
  | _, _ => (aOU P op t x y).map fun v => (true, v)
theorem aTL {op : BinOp} {k : IntKind} {a b : Int} {p : Bool × (aE m)} (h : aUn op k a b = some p) (hp : p.1 = true) : aEc op k a b = some p.2 := by
  cases op <;> simp only [aUn] at h <;> try (rw [Option.map_eq_some_iff] at h; obtain ⟨l, hl, rfl⟩ := h; exact hl)
  all_goals (simp only [Option.some.injEq] at h; subst h; simp at hp)
  · simp [aEc, hp]
  · simp [aEc, hp]
  · simp only [aEc]; rw [if_neg (by omega)]
  · simp only [aEc]; rw [if_neg (by omega)]
theorem aUA {op : BinOp} {a b : ByteArray} {p : Bool × (aE m)} (h : aUH op a b = some p) (hp : p.1 = true) : aN6 op a b = some p.2 := by
  cases op <;> simp only [aUH] at h <;> try (rw [Option.map_eq_some_iff] at h; obtain ⟨l, hl, rfl⟩ := h; exact hl)
  simp only [Option.some.injEq] at h; subst h; simp at hp
  simp [aN6, hp]
theorem aUY {P : Program} {op : BinOp} {t : TypeId} {x y : (SV m)} {p : Bool × (SV m)} (h : aU0 P op t x y = some p) (hp : p.1 = true) : aOU P op t x y = some p.2 := by
  unfold aU0 at h
  split at h
  · rename_i k a k' b ex ey
    unfold aOU
    rw [ex, ey]
    simp only
    split at h
    · rename_i hs
      rw [if_pos hs]
      rw [Option.map_eq_some_iff] at h ⊢
      obtain ⟨q, hq, rfl⟩ := h
      exact ⟨q.2, aTL hq hp, rfl⟩
    · rename_i hs
      rw [if_neg hs]
      split at h
      · rename_i hk
        rw [if_pos hk]
        rw [Option.map_eq_some_iff] at h ⊢
        obtain ⟨q, hq, rfl⟩ := h
        exact ⟨q.2, aTL hq hp, rfl⟩
      · simp at h
  · rename_i a b ex ey
    unfold aOU
    rw [ex, ey]
    simp only
    rw [Option.map_eq_some_iff] at h ⊢
    obtain ⟨q, hq, rfl⟩ := h
    exact ⟨q.2, aUA hq hp, rfl⟩
  · rw [Option.map_eq_some_iff] at h
    obtain ⟨v, hv, rfl⟩ := h
    exact hv
def aVj : (SV m) → Option (Bool × Nat)
  | .leaf (.int _ n) => some (decide (0 ≤ n), n.toNat)
  | _ => none
def aTj (ρ : Operand → (SV m)) : Option Operand → Option (Bool × Option Nat)
  | none => some (true, none)
  | some x => (aVj (ρ x)).map fun p => (p.1, some p.2)
theorem aSK {ρ : Operand → (SV m)} {x : Option Operand} {p : Bool × Option Nat} (h : aTj ρ x = some p) (hp : p.1 = true) : wY ρ x = some p.2 := by
  cases x with
  | none => simp [aTj] at h; subst h; rfl
  | some x =>
    simp only [aTj, Option.map_eq_some_iff] at h
    obtain ⟨q, hq, rfl⟩ := h
    simp only [wY]
    unfold aVj at hq
    split at hq
    · rename_i k n hx
      simp only [Option.some.injEq] at hq
      subst hq
      have : 0 ≤ n := of_decide_eq_true hp
      simp [aRr, hx, this]
    · simp at hq
def aQK (P : Program) (t : TypeId) (x : (SV m)) (lo hi : Option Nat) : Option (Bool × (SV m)) :=
  match P.underlying t, x.drop with
  | some .string, .leaf (.str b) => some (decide (lo.getD 0 ≤ hi.getD b.size) && decide (hi.getD b.size ≤ b.size), .leaf (.str (b.extract (lo.getD 0) (hi.getD b.size))))
  | some (.slice _), .leaf (.sl c es) =>
    (aCH P t).bind fun e => (eQ P e).bind fun z =>
      some (decide (lo.getD 0 ≤ hi.getD es.length) && decide (hi.getD es.length ≤ es.length) && sized z es, .leaf (.sl (c.later lo) ((es.take (hi.getD es.length)).drop (lo.getD 0))))
  | _, _ => none
theorem aTx {P : Program} {t : TypeId} {x : (SV m)} {lo hi : Option Nat} {p : Bool × (SV m)} (h : aQK P t x lo hi = some p) (hp : p.1 = true) : aFz P t x lo hi = some p.2 := by
  unfold aQK at h
  split at h
  · rename_i b hu ex
    simp only [Option.some.injEq] at h; subst h
    simp only [Bool.and_eq_true, decide_eq_true_eq] at hp
    unfold aFz
    rw [hu, ex]
    simp only
    rw [if_pos hp]
  · rename_i e c es hu ex
    rw [Option.bind_eq_some_iff] at h
    obtain ⟨e', he, h⟩ := h
    rw [Option.bind_eq_some_iff] at h
    obtain ⟨z, hz, h⟩ := h
    simp only [Option.some.injEq] at h; subst h
    simp only [Bool.and_eq_true, decide_eq_true_eq] at hp
    unfold aFz
    rw [hu, ex]
    simp only [he, hz, Option.bind_some]
    rw [if_pos hp.1, hp.2]
    rfl
  · simp at h
def aHi (P : Program) (t : TypeId) (x i : (SV m)) : Option (Bool × (SV m)) :=
  match aCH P t, x.drop, i with
  | some e, .bsl b z lo k, .leaf (.int _ n) => (eQ P e).bind fun z' => if z' = z ∧ 0 < z then some (decide (0 ≤ n) && decide (n < (k : Int)), .ptr b ((lo + n.toNat) * z)) else none
  | some e, .leaf (.sl c es), .leaf (.int _ n) => (eQ P e).bind fun z =>
    some (decide (0 ≤ n) && decide (n < (es.length : Int)) && sized z es, .eptr c (es.getD n.toNat []) 0)
  | _, _, _ => none
theorem aON {P : Program} {t : TypeId} {x i : (SV m)} {p : Bool × (SV m)} (h : aHi P t x i = some p) (hp : p.1 = true) : rJ P t x i = some p.2 := by
  unfold aHi at h
  split at h
  · rename_i e b z lo q kk n he ex
    rw [Option.bind_eq_some_iff] at h
    obtain ⟨z', hz, h⟩ := h
    split at h
    · rename_i hzz
      simp only [Option.some.injEq] at h; subst h
      simp only [Bool.and_eq_true, decide_eq_true_eq] at hp
      unfold rJ
      rw [he, ex]
      simp only [hz, Option.bind_some]
      rw [if_pos hp.1, if_pos hp.2, if_pos hzz]
    · simp at h
  · rename_i e c es k n he ex
    rw [Option.bind_eq_some_iff] at h
    obtain ⟨z, hz, h⟩ := h
    simp only [Option.some.injEq] at h; subst h
    simp only [Bool.and_eq_true, decide_eq_true_eq] at hp
    unfold rJ
    rw [he, ex]
    simp only [hz, Option.bind_some]
    rw [if_pos hp.1.1, if_pos hp.1.2, hp.2]
    rfl
  · simp at h
def aSR (P : Program) (t : TypeId) (l c : (SV m)) : Option (Bool × ((Nat × Nat) × List (SV m))) :=
  match l, c with
  | .leaf (.int _ a), .leaf (.int _ b) =>
    (aCH P t).bind fun e => (P.info? e).bind fun i => (rK P e).bind fun ze => aA (decide (0 < i.size) && ze.length == i.size) <|
      some (decide (0 ≤ a) && a == b && decide (a.toNat * i.bytes ≤ aO) && decide (a.toNat ≤ aO), ((i.size, a.toNat), ((List.replicate a.toNat ze).flatten.map .leaf)))
  | _, _ => none
theorem aT9 {P : Program} {t : TypeId} {x y : (SV m)} {p : Bool × ((Nat × Nat) × List (SV m))} (h : aSR P t x y = some p) (hp : p.1 = true) : aNO P t x y = some p.2 := by
  unfold aSR at h
  split at h
  · rename_i k1 a k2 b
    rw [Option.bind_eq_some_iff] at h
    obtain ⟨e, he, h⟩ := h
    rw [Option.bind_eq_some_iff] at h
    obtain ⟨i, hi, h⟩ := h
    rw [Option.bind_eq_some_iff] at h
    obtain ⟨ze, hze, h⟩ := h
    obtain ⟨hg, h⟩ := bS h
    simp only [Option.some.injEq] at h; subst h
    simp only [Bool.and_eq_true, decide_eq_true_eq, beq_iff_eq] at hp hg
    unfold aNO
    simp only [he, hi, hze, Option.bind_some]
    rw [if_pos ⟨⟨hp.1.1.1, hp.1.1.2⟩, ⟨hg.1, hp.1.2, hp.2⟩, hg.2⟩]
  · simp at h
def aQX (P : Program) (t : TypeId) (x i : (SV m)) : Option (Bool × (SV m)) :=
  match P.underlying t, x, i with
  | some .string, .leaf (.str s), .leaf (.int _ n) => some (decide (0 ≤ n) && decide (n < (s.size : Int)), .leaf (.int .u8 (s.data.toList.getD n.toNat 0).toNat))
  | _, _, _ => none
theorem aS0 {P : Program} {t : TypeId} {x i : (SV m)} {p : Bool × (SV m)} (h : aQX P t x i = some p) (hp : p.1 = true) : aHJ P t x i = some p.2 := by
  unfold aQX at h
  split at h
  · rename_i s k n hu
    simp only [Option.some.injEq] at h; subst h
    simp only [Bool.and_eq_true, decide_eq_true_eq] at hp
    unfold aHJ
    rw [hu]
    simp only
    rw [if_pos hp.1, if_pos hp.2]
  · simp at h
def aO1 (P : Program) (argTypes : Array TypeId) (x y : (SV m)) : Option (Bool × (SV m)) :=
  match argTypes.toList, x with
  | [t, u], .own eo es =>
    (aCH P t).bind fun e => (P.info? e).bind fun i => aA (eo.getD e == e && decide (0 < i.size) && decide (0 < i.bytes) && aAI P e) <|
      match P.underlying u, y.drop with
      | some (.slice _), .leaf (.sl _ fs) => if t = u then some (decide ((es.length + fs.length) * i.bytes ≤ aO) && sized i.size fs, .own (some e) (es ++ fs)) else none
      | some .string, .leaf (.str s) => aA (aEZ P e) (some (decide (es.length + s.size ≤ aO), .own (some e) (es ++ s.data.toList.map fun b => [.int .u8 b.toNat])))
      | _, _ => none
  | _, _ => none
theorem aRQ {P : Program} {ts : Array TypeId} {x y : (SV m)} {p : Bool × (SV m)} (h : aO1 P ts x y = some p) (hp : p.1 = true) : aF4 P ts x y = some p.2 := by
  unfold aO1 at h
  split at h
  · rename_i t u eo es hts
    rw [Option.bind_eq_some_iff] at h
    obtain ⟨e, he, h⟩ := h
    rw [Option.bind_eq_some_iff] at h
    obtain ⟨i, hi, h⟩ := h
    obtain ⟨hg, h⟩ := bS h
    unfold aF4
    rw [hts]
    simp only [he, hi, Option.bind_some, hg, aA]
    split at h
    · rename_i e2 c fs hu hy
      rw [hu, hy]
      simp only
      split at h
      · rename_i htu
        simp only [Option.some.injEq] at h; subst h
        simp only [Bool.and_eq_true, decide_eq_true_eq] at hp
        rw [if_pos ⟨htu, hp.1⟩, hp.2]
      · simp at h
    · rename_i s hu hy
      rw [hu, hy]
      simp only
      obtain ⟨hz, h⟩ := bS h
      simp only [Option.some.injEq] at h; subst h
      have hp' := of_decide_eq_true hp
      rw [if_pos hp', hz]
    · simp at h
  · simp at h
def aQS : List (aE m) → Bool | [.int .u8 _] => true | _ => false
def aNb : List (aE m) → UInt8 | [.int .u8 n] => UInt8.ofNat n.toNat | _ => 0
def aSV (P : Program) (src dst : TypeId) (x : (SV m)) : Option (Bool × (SV m)) :=
  match P.underlying src, P.underlying dst, x.drop with
  | some (.slice e), some .string, .leaf (.sl _ es) =>
    match P.underlying e with
    | some (.int .u8) => some (es.all aQS, .leaf (.str ⟨(es.map aNb).toArray⟩))
    | _ => none
  | _, _, _ => (aK8 P src dst x).map fun v => (true, v)
theorem aOj : ∀ (es : List (List (aE m))), es.all aQS = true → nQ es = some (es.map aNb)
  | [], _ => rfl
  | e :: es, h => by
    simp only [List.all_cons, Bool.and_eq_true] at h
    have ih := aOj es h.2
    have h1 := h.1
    unfold aQS at h1
    split at h1
    · simp [nQ, ih, aNb]
    · simp at h1
theorem aUm {P : Program} {src dst : TypeId} {x : (SV m)} {p : Bool × (SV m)} (h : aSV P src dst x = some p) (hp : p.1 = true) : aK8 P src dst x = some p.2 := by
  unfold aSV at h
  split at h
  · rename_i e c es hs hd ex
    unfold aK8
    rw [hs, hd, ex]
    simp only
    split at h
    · rename_i he
      simp only [Option.some.injEq] at h; subst h
      rw [he]
      simp [aOj es hp]
    · simp at h
  · rw [Option.map_eq_some_iff] at h
    obtain ⟨v, hv, rfl⟩ := h
    exact hv
end Go.Vs
end
section
namespace Go.Vs
variable {m : Bool}
section
variable {β : Type}
def aQT (P : Program) (own : Bool) (dst : Option Tmp) (t : TypeId) (v : (SV m)) (k : (SV m) → Option β) : Option β := match dst with | none => k v | some _ => aN1 P own t v k
def aUE (args : List (SV m)) : List Nat := args.flatMap fun | .bsl b _ _ _ => [b] | _ => []
def aJJ (P : Program) (D : (cA m)) (s : (St m)) (own pureHint : Bool) (f : FuncId) (args : List (SV m)) (dst : Option Tmp) (t : TypeId) (k : (St m) → Option β) : Option β :=
  aA (args.all SV.handed) <|
    match pureHint with
    | true => aA (mC args).isEmpty ((D f args []).bind fun r => aQT P own dst t r.1 fun v => k (s.put dst v))
    | false => (vF s.boxes (mC args)).bind fun cs => aA (cs.all (·.all SV.flat)) <|
        (D f (args.map (SV.ren (iF (mC args)))) cs).bind fun r => aAT ((mC args).map (aUE args).contains) cs r.2 fun bs => aQT P own dst t r.1 fun v => k (({ s with boxes := iT s.boxes (mC args) bs } : (St m)).put dst v)
def refine (s : (St m)) (x : Operand) (b : Bool) : (St m) := match x with | .tmp t => s.put (some t) (.leaf (.bool b)) | _ => s
def aO7 (s : (St m)) (t : Tmp) (want : Bool) (x y : (St m) → Option β) : Option β :=
  match s.tmps.getD t .any with
  | .leaf (.bool b) => aB (b == want) (x (refine s (.tmp t) want)) (y (refine s (.tmp t) !want))
  | .skip => y s
  | _ => none
def kW (cs : List (SV m)) (p : Nat) (vs : List (SV m)) : List (SV m) := cs.take p ++ vs ++ cs.drop (p + vs.length)
def gC (P : Program) (D : (cA m)) (nt : Nat) (mv pu ta : Bool) (o : Oper) (s : (St m)) (k : (St m) → Option β) : Option β :=
  match o.op with
  | .pick c a b => pK (s.eval c) fun t => aB t (k ((refine s c true).put o.dst ((refine s c true).eval a).drop)) (k ((refine s c false).put o.dst ((refine s c false).eval b).drop))
  | .load t x => (match s.eval x with
    | .eptr _ e p => aOe P t e p fun v => k (s.put o.dst v)
    | .ptr b p => (match qF P t, mv with
      | false, false => (s.box b).bind fun cs => aHz cs p fun c => aNR P t c fun v => k (s.put o.dst v)
      | _, _ => gG P D nt mv pu ta o s k)
    | _ => gG P D nt mv pu ta o s k)
  | .store t x y => (match s.eval x with
    | .ptr b p => (s.box b).bind fun cs => (eQ P t).bind fun n => aA (s.eval y).data (aA (n == (s.eval y).cells.length && decide (p + n ≤ cs.length)) (k (((s.take y).setBox b (some (kW cs p (s.eval y).cells))).put o.dst .skip)))
    | _ => gG P D nt mv pu ta o s k)
  | .makeSlice t l c => (match o.dst with
    | some d => (match s.box d with
      | none => aA (decide (d < nt)) ((aSR P t (s.eval l) (s.eval c)).bind fun p => aA p.1 (k ((s.setBox d (some p.2.2)).put o.dst (.bsl d p.2.1.1 0 p.2.1.2))))
      | some _ => none)
    | none => none)
  | .binOp op t x y _ => (aU0 P op t (s.eval x) (s.eval y)).bind fun p => aA p.1 (k (s.put o.dst p.2))
  | .convert src dst x => (aSV P src dst (s.eval x)).bind fun p => aA p.1 (k (s.put o.dst p.2))
  | .slice t x lo hi none => (aTj s.eval lo).bind fun l => (aTj s.eval hi).bind fun h => (aQK P t (s.eval x) l.2 h.2).bind fun p => aA (l.1 && h.1 && p.1) (k (s.put o.dst p.2))
  | .indexAddr t x i => (aHi P t (s.eval x) (s.eval i)).bind fun p => aA p.1 (k (s.put o.dst p.2))
  | .index t x i => (aQX P t (s.eval x) (s.eval i)).bind fun p => aA p.1 (k (s.put o.dst p.2))
  | .call c => (match c.callee with
    | .builtin .append => (match c.args.toList with
      | [x, y] => (aO1 P c.argTypes (s.eval x) (s.eval y)).bind fun p => aA p.1 (k ((s.take x).put o.dst p.2))
      | _ => none)
    | .value g => (match s.eval g with
      | .fn f caps => aA (decide (cS c.args.toList).Nodup) (aJJ P D (s.takes (aA7 ta c.args.toList)) mv pu f (c.args.toList.map (uQ ta s.eval) ++ caps) o.dst o.type k)
      | _ => none)
    | _ => gG P D nt mv pu ta o s k)
  | _ => gG P D nt mv pu ta o s k
def aKa (P : Program) (D : (cA m)) (nt : Nat) (mv pu ta : Bool) (ops : Array Oper) (o : Oper) (s : (St m)) (k : (St m) → Option β) : Option β :=
  match o.guard with
  | none => gC P D nt mv pu ta o s k
  | some (j, want) => match (ops[j]?).bind (·.dst) with
    | some t => aO7 s t want (fun s => gC P D nt mv pu ta o s k) (fun s => k (s.put o.dst .skip))
    | none => none
def aBB (P : Program) (D : (cA m)) (nt : Nat) (mv pu ta : Nat → Bool) (ops : Array Oper) : List Oper → Nat → (St m) → ((St m) → Option β) → Option β
  | [], _, s, k => k s
  | o :: r, i, s, k => aKa P D nt (mv i) (pu i) (ta i) ops o s fun s' => aBB P D nt mv pu ta ops r (i + 1) s' k
end
section
variable {β : Type}
def aSI (v : (SV m)) (k : (SV m) → Option β) : Option β :=
  match v with
  | .any => k .any
  | .skip => k .skip
  | .leaf l => k (.leaf l)
  | .own e es => k (.own e es)
  | .agg cs => k (.agg cs)
  | .ptr b o => k (.ptr b o)
  | .eptr c e o => k (.eptr c e o)
  | .bsl b z lo n => k (.bsl b z lo n)
  | .nilptr => k .nilptr
  | .nilface => k .nilface
  | .fn f caps => k (.fn f caps)
  | .tup vs => k (.tup vs)
theorem aSi (v : (SV m)) (k : (SV m) → Option β) : aSI v k = k v := by cases v <;> rfl
def aOD : List (SV m) → (List (SV m) → Option β) → Option β
  | [], k => k []
  | v :: l, k => aSI v fun v' => aOD l fun l' => k (v' :: l')
theorem aOh : ∀ (l : List (SV m)) (k : List (SV m) → Option β), aOD l k = k l
  | [], _ => rfl
  | v :: l, k => by simp only [aOD, aSi, aOh l]
def aKe : List (Option (List (SV m))) → (List (Option (List (SV m))) → Option β) → Option β
  | [], k => k []
  | none :: l, k => aKe l fun l' => k (none :: l')
  | some c :: l, k => aKe l fun l' => k (some c :: l')
theorem aJV : ∀ (l : List (Option (List (SV m)))) (k : List (Option (List (SV m))) → Option β), aKe l k = k l
  | [], _ => rfl
  | none :: l, k => by simp only [aKe, aJV l]
  | some c :: l, k => by simp only [aKe, aJV l]
def aBR (s : (St m)) (k : (St m) → Option β) : Option β := aOD s.tmps fun t => aKe s.boxes fun b => k ⟨t, b⟩
theorem yA (s : (St m)) (k : (St m) → Option β) : aBR s k = k s := by unfold aBR; rw [aOh, aJV]
end
def dZ {β : Type} (P : Program) (D : (cA m)) (H : gN) (loop : ((St m) → Option (Out m)) → ((St m) → Option (St m)) → (St m) → Option (Out m)) : Nat → Code → (St m) → ((Out m) → Option β) → Option β
  | _, .skip, s, k => k (.norm s)
  | _, .region id ops draw, s, k => aA (!draw || aAX (H.mv id) (H.pure id) (H.take id) ops) (aBB P D H.nt (H.mv id) (H.pure id) (H.take id) ops ops.toList 0 s fun s' => aBR ((s'.tidy (H.after id) (H.afterB id)).freeze (H.fz id)) fun s' => k (.norm s'))
  | blk, .seq a b, s, k => dZ P D H loop blk a s (aMp (fun s' => dZ P D H loop blk b s' k) k)
  | blk, .cond c a b, s, k => pK (s.eval c) fun t => aB t (aBR (s.dropC H.condA c) fun s => dZ P D H loop blk a s k) (aBR (s.dropC H.condB c) fun s => dZ P D H loop blk b s k)
  | _, .block id a, s, k => dZ P D H loop id a s (wN id k)
  | blk, .loop a, s, k => (loop (fun s => dZ P D H loop blk a s some) (fun s => s.again (H.clear blk) (H.drop blk)) s).bind k
  | _, .exit id, s, k => k (.exit id s)
  | _, .ret, s, k => k (.ret s)
  | _, _, _, _ => none
def aV (P : Program) (D : (cA m)) (H : FuncId → gN) (loop : ((St m) → Option (Out m)) → ((St m) → Option (St m)) → (St m) → Option (Out m)) : (cA m) := fun f args boxes =>
  match P.funcs[f]? with
  | some fn => match fn.body with
    | some c => dZ P D ((H f).fit fn.ntmps) loop 0 c (aA1 fn args boxes) (aNH P fn boxes.length)
    | none => none
  | none => none
section
variable {P : Program} {D : (cA m)} {β : Type}
theorem xY {nt : Nat} {mv pu ta : Bool} {o : Oper} {s : (St m)} {k1 k2 : (St m) → Option β} {y : β} (hk : ∀ s, k2 s = some y → k1 s = some y) (h : gG P D nt mv pu ta o s k2 = some y) : gG P D nt mv pu ta o s k1 = some y := by
  rw [aFv, Option.bind_eq_some_iff] at h ⊢
  obtain ⟨e, he, h⟩ := h
  exact ⟨e, he, hk _ h⟩
theorem aRw {own : Bool} {dst : Option Tmp} {t : TypeId} {v : (SV m)} {k : (SV m) → Option β} {y : β} (h : aQT P own dst t v k = some y) : k v = some y := by
  unfold aQT at h
  split at h
  · exact h
  · exact aSM h
theorem aRT {s : (St m)} {own pu : Bool} {f : FuncId} {args : List (SV m)} {dst : Option Tmp} {t : TypeId} {k1 k2 : (St m) → Option β} {y : β} (hk : ∀ s, k2 s = some y → k1 s = some y) (h : aJJ P D s own pu f args dst t k2 = some y) : aRz D s pu f args dst k1 = some y := by
  unfold aJJ at h
  obtain ⟨h1, h⟩ := bS h
  unfold aRz
  rw [h1]
  simp only [aA]
  split at h
  · obtain ⟨h2, h⟩ := bS h
    rw [if_pos rfl, if_pos (by simpa using h2)]
    rw [Option.bind_eq_some_iff] at h ⊢
    obtain ⟨r, hr, h⟩ := h
    exact ⟨r, hr, hk _ (aRw h)⟩
  · rw [if_neg (by simp)]
    rw [Option.bind_eq_some_iff] at h ⊢
    obtain ⟨cs, hcs, h⟩ := h
    obtain ⟨h2, h⟩ := bS h
    refine ⟨cs, hcs, ?_⟩
    rw [h2]
    simp only
    rw [Option.bind_eq_some_iff] at h ⊢
    obtain ⟨r, hr, h⟩ := h
    refine ⟨r, hr, hk _ ?_⟩
    have h3 := aOp _ cs r.2 _ y h
    exact aRw h3
theorem gk {x : Option (Bool × (SV m))} {x' : Option (SV m)} {k1 k2 : (SV m) → Option β} {y : β} (hx : ∀ p, x = some p → p.1 = true → x' = some p.2) (hk : ∀ v, k2 v = some y → k1 v = some y) (h : x.bind (fun p => aA p.1 (k2 p.2)) = some y) : x'.bind k1 = some y := by
  rw [Option.bind_eq_some_iff] at h
  obtain ⟨p, hp, h⟩ := h
  obtain ⟨h1, h2⟩ := bS h
  rw [hx p hp h1, Option.bind_some]
  exact hk _ h2
theorem aKL {s : (St m)} {x : Operand} {b : Bool} (h : s.eval x = .leaf (.bool b)) : refine s x b = s := by
  cases x with
  | tmp t =>
    simp only [refine, St.put]
    have h' : s.tmps.getD t .any = .leaf (.bool b) := h
    have hl : s.tmps[t]? = some (.leaf (.bool b)) := by
      rw [List.getD_eq_getElem?_getD] at h'
      cases hx : s.tmps[t]? with
      | none => rw [hx] at h'; simp at h'
      | some v => rw [hx] at h'; simpa using h'
    have : s.tmps.set t (.leaf (.bool b)) = s.tmps := by
      apply List.ext_getElem?
      intro i
      by_cases hi : t = i
      · subst hi; rw [List.getElem?_set_self (List.getElem?_eq_some_iff.1 hl).1, hl]
      · rw [List.getElem?_set_ne hi]
    rw [this]
  | _ => rfl
theorem aSo {s : (St m)} {t : Tmp} {want : Bool} {x y : (St m) → Option β} : aO7 s t want x y = qL (s.tmps.getD t .any) want (x s) (y s) := by
  unfold aO7 qL
  have hr : ∀ b, s.tmps.getD t .any = .leaf (.bool b) → refine s (.tmp t) b = s := fun b hb => aKL (x := .tmp t) hb
  generalize s.tmps.getD t .any = v at hr
  cases v with
  | leaf l =>
    cases l with
    | bool b =>
      simp only [pC]
      by_cases hw : b = want
      · subst hw; simp [hr b rfl]
      · have : b = !want := by cases b <;> cases want <;> simp_all
        subst this
        simp [hr _ rfl]
    | _ => rfl
  | _ => rfl
theorem aNS {nt : Nat} {mv pu ta : Bool} {o : Oper} {s : (St m)} {k1 k2 : (St m) → Option β} {y : β} (hk : ∀ s, k2 s = some y → k1 s = some y) (h : gC P D nt mv pu ta o s k2 = some y) : gG P D nt mv pu ta o s k1 = some y := by
  cases hop : o.op
  case load t x =>
    simp only [gC, hop] at h
    split at h
    · rename_i c e p hx
      obtain ⟨v, hv, h⟩ := aTG h
      simp only [gG, hop, hx, hv, Option.bind_some]
      exact hk _ h
    · rename_i b p hx
      split at h
      · rename_i ha
        rw [Option.bind_eq_some_iff] at h
        obtain ⟨cs, hcs, h⟩ := h
        obtain ⟨c, hc, h⟩ := aTW h
        have h := aTI h
        simp only [gG, hop, hx, hcs, Option.bind_some]
        rw [if_neg (by simp [ha]), hc]
        exact hk _ h
      · exact xY hk h
    · exact xY hk h
  case store t x y =>
    simp only [gC, hop] at h
    split at h
    · rename_i b p hx
      rw [Option.bind_eq_some_iff] at h
      obtain ⟨cs, hcs, h⟩ := h
      rw [Option.bind_eq_some_iff] at h
      obtain ⟨n, hn, h⟩ := h
      obtain ⟨h1, h⟩ := bS h
      obtain ⟨h2, h⟩ := bS h
      simp only [Bool.and_eq_true, beq_iff_eq, decide_eq_true_eq] at h2
      simp only [gG, hop, hx, hcs, hn, Option.bind_some, h1, aA]
      rw [if_pos h2]
      have := hk _ h
      rw [kW, ← h2.1] at this
      exact this
    · exact xY hk h
  case makeSlice t l c =>
    simp only [gC, hop] at h
    simp only [gG, hop]
    split at h
    · rename_i d hd
      rw [hd]
      simp only
      split at h
      · rename_i hb
        rw [hb]
        simp only
        obtain ⟨h1, h⟩ := bS h
        rw [h1]
        simp only [aA]
        rw [Option.bind_eq_some_iff] at h ⊢
        obtain ⟨p, hp, h⟩ := h
        obtain ⟨h2, h⟩ := bS h
        refine ⟨p.2, aT9 hp h2, ?_⟩
        rw [hd] at h
        exact hk _ h
      · simp at h
    · simp at h
  case pick c x z =>
    simp only [gC, hop] at h
    simp only [gG, hop]
    obtain ⟨b, hb, h⟩ := uX h
    rw [hb]
    simp only [pK]
    cases b
    · simp only [aB, aKL hb] at h ⊢; exact hk _ h
    · simp only [aB, aKL hb] at h ⊢; exact hk _ h
  case binOp op t x z u =>
    simp only [gC, hop] at h
    simp only [gG, hop]
    exact gk (fun p hp h1 => aUY hp h1) (fun v => hk _) h
  case convert src dst x =>
    simp only [gC, hop] at h
    simp only [gG, hop]
    exact gk (fun p hp h1 => aUm hp h1) (fun v => hk _) h
  case slice t x lo hi mx =>
    cases mx with
    | some m => simp only [gC, hop] at h; exact xY hk h
    | none =>
      simp only [gC, hop] at h
      simp only [gG, hop]
      rw [Option.bind_eq_some_iff] at h
      obtain ⟨l, hl, h⟩ := h
      rw [Option.bind_eq_some_iff] at h
      obtain ⟨r, hr, h⟩ := h
      rw [Option.bind_eq_some_iff] at h
      obtain ⟨p, hp, h⟩ := h
      obtain ⟨h1, h2⟩ := bS h
      simp only [Bool.and_eq_true] at h1
      rw [aSK hl h1.1.1, Option.bind_some, aSK hr h1.1.2, Option.bind_some, aTx hp h1.2, Option.bind_some]
      exact hk _ h2
  case indexAddr t x i =>
    simp only [gC, hop] at h
    simp only [gG, hop]
    exact gk (fun p hp h1 => aON hp h1) (fun v => hk _) h
  case index t x i =>
    simp only [gC, hop] at h
    simp only [gG, hop]
    exact gk (fun p hp h1 => aS0 hp h1) (fun v => hk _) h
  case call c =>
    cases hc : c.callee with
    | invoke r m => simp only [gC, hop, hc] at h; exact xY hk h
    | value g =>
      simp only [gC, hop, hc] at h
      simp only [gG, hop, hc]
      split at h
      · rename_i f caps hg
        obtain ⟨h1, h⟩ := bS h
        rw [hg]
        simp only [h1, aA]
        exact aRT hk h
      · simp at h
    | builtin b =>
      cases b
      case append =>
        simp only [gC, hop, hc] at h
        simp only [gG, hop, hc]
        split at h
        · rename_i x z hargs
          rw [hargs]
          simp only
          exact gk (fun p hp h1 => aRQ hp h1) (fun v => hk _) h
        · simp at h
      all_goals (simp only [gC, hop, hc] at h; exact xY hk h)
  all_goals (simp only [gC, hop] at h; exact xY hk h)
theorem aRL {nt : Nat} {mv pu ta : Bool} {ops : Array Oper} {o : Oper} {s : (St m)} {k1 k2 : (St m) → Option β} {y : β} (hk : ∀ s, k2 s = some y → k1 s = some y) (h : aKa P D nt mv pu ta ops o s k2 = some y) : aQb P D nt mv pu ta ops o s k1 = some y := by
  unfold aKa at h
  unfold aQb
  cases hg : o.guard with
  | none => rw [hg] at h; exact aNS hk h
  | some g =>
    obtain ⟨j, want⟩ := g
    rw [hg] at h
    simp only at h ⊢
    cases hj : (ops[j]?).bind (·.dst) with
    | none => rw [hj] at h; simp at h
    | some t =>
      rw [hj] at h
      simp only at h ⊢
      rw [aSo] at h
      unfold qL at h ⊢
      split at h
      · rename_i b hb
        rw [pC] at h ⊢
        split at h
        · rename_i hbw
          rw [if_pos hbw]
          exact aNS hk h
        · rename_i hbw
          rw [if_neg hbw]
          exact hk _ h
      · exact hk _ h
      · simp at h
theorem aNl {nt : Nat} {mv pu ta : Nat → Bool} {ops : Array Oper} {y : β} : ∀ (l : List Oper) (i : Nat) (s : (St m)) (k1 k2 : (St m) → Option β), (∀ s, k2 s = some y → k1 s = some y) → aBB P D nt mv pu ta ops l i s k2 = some y → lN P D nt mv pu ta ops l i s k1 = some y
  | [], i, s, k1, k2, hk, h => hk _ h
  | o :: l, i, s, k1, k2, hk, h => by
    simp only [aBB] at h
    simp only [lN]
    exact aRL (fun s' h' => aNl l (i + 1) s' k1 k2 hk h') h
def Up (loop : ((St m) → Option (Out m)) → ((St m) → Option (St m)) → (St m) → Option (Out m)) : Prop := ∀ body body' again s o, (∀ s o, body s = some o → body' s = some o) → loop body again s = some o → loop body' again s = some o
theorem aRv : Up (m := m) bP := by
  intro body body' again s o hb h
  obtain ⟨n, hn⟩ := aCu.1 h
  exact aCu.2 ⟨n, vB hb n n (Nat.le_refl _) s o hn⟩
theorem aRS {f1 f2 : (St m) → Option β} {k1 k2 : (Out m) → Option β} {y : β} (hf : ∀ s, f2 s = some y → f1 s = some y) (hk : ∀ o, k2 o = some y → k1 o = some y) : ∀ o, aMp f2 k2 o = some y → aMp f1 k1 o = some y := by
  intro o h
  cases o with
  | norm s => exact hf s h
  | exit id s => exact hk _ h
  | ret s => exact hk _ h
theorem aPR {id : Nat} {k1 k2 : (Out m) → Option β} {y : β} (hk : ∀ o, k2 o = some y → k1 o = some y) : ∀ o, wN id k2 o = some y → wN id k1 o = some y := by
  intro o h
  cases o with
  | norm s => exact hk _ h
  | exit id' s =>
    simp only [wN] at h ⊢
    split at h
    · rename_i he; rw [if_pos he]; exact hk _ h
    · rename_i he; rw [if_neg he]; exact hk _ h
  | ret s => exact hk _ h
theorem aNM {H : gN} {loop : ((St m) → Option (Out m)) → ((St m) → Option (St m)) → (St m) → Option (Out m)} (hL : Up loop) : ∀ (c : Code) (blk : Nat) {β : Type} (s : (St m)) (k1 k2 : (Out m) → Option β) (y : β), (∀ o, k2 o = some y → k1 o = some y) → dZ P D H loop blk c s k2 = some y → eW P D H loop blk c s k1 = some y := by
  intro c
  induction c with
  | skip => intro blk β s k1 k2 y hk h; exact hk _ h
  | region id ops draw =>
    intro blk β s k1 k2 y hk h
    simp only [dZ] at h
    obtain ⟨hg, h⟩ := bS h
    simp only [eW, hg, aA]
    exact aNl _ _ _ _ _ (fun s' h' => by rw [yA] at h'; exact hk _ h') h
  | seq a b iha ihb =>
    intro blk β s k1 k2 y hk h
    simp only [dZ] at h
    simp only [eW]
    exact iha blk s _ _ y (aRS (fun s' => ihb blk s' k1 k2 y hk) hk) h
  | cond x a b iha ihb =>
    intro blk β s k1 k2 y hk h
    simp only [dZ] at h
    simp only [eW]
    obtain ⟨t, ht, h⟩ := uX h
    rw [ht]
    simp only [pK]
    simp only [yA] at h
    cases t
    · exact ihb blk _ k1 k2 y hk h
    · exact iha blk _ k1 k2 y hk h
  | block id a ih =>
    intro blk β s k1 k2 y hk h
    simp only [dZ] at h
    simp only [eW]
    exact ih id s _ _ y (aPR hk) h
  | loop a ih =>
    intro blk β s k1 k2 y hk h
    simp only [dZ] at h
    simp only [eW]
    rw [Option.bind_eq_some_iff] at h ⊢
    obtain ⟨o, ho, h⟩ := h
    exact ⟨o, hL _ _ _ _ _ (fun s' o' h' => ih blk s' some some o' (fun _ h => h) h') ho, hk _ h⟩
  | exit id => intro blk β s k1 k2 y hk h; exact hk _ h
  | ret => intro blk β s k1 k2 y hk h; exact hk _ h
  | _ => intro blk β s k1 k2 y hk h; simp [dZ] at h
theorem aTi {H : FuncId → gN} {loop : ((St m) → Option (Out m)) → ((St m) → Option (St m)) → (St m) → Option (Out m)} (hL : Up loop) {f : FuncId} {a : List (SV m)} {b : List (List (SV m))} {r : (SV m) × List (List (SV m))} (h : aV P D H loop f a b = some r) : aOB P D H loop f a b = some r := by
  unfold aV at h
  unfold aOB
  cases hfn : P.funcs[f]? with
  | none => rw [hfn] at h; simp at h
  | some fn =>
    rw [hfn] at h
    simp only at h ⊢
    cases hc : fn.body with
    | none => rw [hc] at h; simp at h
    | some c =>
      rw [hc] at h
      simp only at h ⊢
      exact aNM hL c 0 _ _ _ r (fun _ h => h) h
theorem aM4 {T : (aLL m)} {H : FuncId → gN} {f : FuncId} {a : List (SV m)} {b : List (List (SV m))} {r : (SV m) × List (List (SV m))} (hT : T f = none) (h : aV P (den P T H) H bP f a b = some r) : den P T H f a b = some r :=
  aUg hT (aTi aRv h)
end
end Go.Vs
end
section
namespace Go.Vs
variable {m : Bool}
def sub : Code → List Nat → Code
  | c, [] => c
  | .seq a b, n :: r => if n = 0 then sub a r else sub b r
  | .cond _ a b, n :: r => if n = 0 then sub a r else sub b r
  | .block _ a, _ :: r => sub a r
  | .loop a, _ :: r => sub a r
  | c, _ => c
def nR (P : Program) (f : FuncId) : Code := match P.funcs[f]? with | some fn => fn.body.getD .skip | none => .skip
def sK (P : Program) (f : FuncId) : Func := (P.funcs[f]?).getD default
structure Tab where
  mv : List (List Nat)
  boxed : List (List Nat)
  take : List (List Nat)
  clear : List (Nat × List Nat)
  drop : List (Nat × List Nat)
  after : List (List Nat)
  afterB : List (List Nat)
  condA : List (Nat × List Nat × List Nat)
  condB : List (Nat × List Nat × List Nat)
  fz : List (Nat × List Nat)
def Tab.hints (t : Tab) : gN :=
  { nt := 0
    mv := fun r i => (t.mv.getD r []).contains i
    pure := fun r i => !(t.boxed.getD r []).contains i
    take := fun r i => (t.take.getD r []).contains i
    clear := fun b => ((t.clear.find? fun p => p.1 == b).map (·.2)).getD []
    drop := fun b => ((t.drop.find? fun p => p.1 == b).map (·.2)).getD []
    after := fun r => t.after.getD r []
    afterB := fun r => t.afterB.getD r []
    condA := fun b => ((t.condA.find? fun p => p.1 == b).map (·.2)).getD ([], [])
    condB := fun b => ((t.condB.find? fun p => p.1 == b).map (·.2)).getD ([], [])
    fz := fun b => ((t.fz.find? fun p => p.1 == b).map (·.2)).getD [] }
def aVu : Tab := ⟨[], [], [], [], [], [], [], [], [], []⟩
end Go.Vs
end
section
namespace Go.Vs
variable {m : Bool}
section
variable {α β : Type}
theorem iM (b : Bool) (x : Option α) (f : α → Option β) : (aA b x).bind f = aA b (x.bind f) := by cases b <;> rfl
theorem aFq (b : Bool) (x y : Option α) (f : α → Option β) : (aB b x y).bind f = aB b (x.bind f) (y.bind f) := by cases b <;> rfl
theorem aLj (v : (SV m)) (k : Bool → Option α) (f : α → Option β) : (pK v k).bind f = pK v fun b => (k b).bind f := by unfold pK; split <;> rfl
theorem aN0 (k0 : IntKind) (l : (aE m)) (k : Int → Option α) (f : α → Option β) : (dQ k0 l k).bind f = dQ k0 l fun n => (k n).bind f := by
  unfold dQ; split
  · split <;> rfl
  · rfl
theorem aMa (l : (aE m)) (k : Bool → Option α) (f : α → Option β) : (dV l k).bind f = dV l fun n => (k n).bind f := by unfold dV; split <;> rfl
theorem aNP (l : (aE m)) (k : ByteArray → Option α) (f : α → Option β) : (cO l k).bind f = cO l fun n => (k n).bind f := by unfold cO; split <;> rfl
theorem aTF (l : (aE m)) (k : Fl m → List (List (aE m)) → Option α) (f : α → Option β) : (slK l k).bind f = slK l fun c n => (k c n).bind f := by unfold slK; split <;> rfl
theorem aHf (P : Program) (t : TypeId) (l : (aE m)) (k : (aE m) → Option α) (f : α → Option β) : (aK7 P t l k).bind f = aK7 P t l fun n => (k n).bind f := by
  unfold aK7
  split
  · exact aN0 _ _ _ _
  · exact aMa _ _ _
  · exact aNP _ _ _
  · exact aTF _ _ _
  · rfl
theorem aPH (e : List (aE m)) (p : Nat) (k : (aE m) → Option α) (f : α → Option β) : (atK e p k).bind f = atK e p fun n => (k n).bind f := by unfold atK; split <;> rfl
theorem aB6 (P : Program) : ∀ (ts : List TypeId) (e : List (aE m)) (p : Nat) (k : List (aE m) → Option α) (f : α → Option β), (vT P ts e p k).bind f = vT P ts e p fun n => (k n).bind f
  | [], e, p, k, f => rfl
  | t :: ts, e, p, k, f => by
    simp only [vT]
    rw [aPH]
    congr 1
    funext l
    rw [aHf]
    congr 1
    funext l'
    exact aB6 P ts e (p + 1) _ f
theorem aQv (P : Program) (t : TypeId) (e : List (aE m)) (p : Nat) (k : (SV m) → Option α) (f : α → Option β) : (aOe P t e p k).bind f = aOe P t e p fun n => (k n).bind f := by
  unfold aOe
  split
  · rw [Option.bind_assoc]
    congr 1
    funext ts
    rw [Option.bind_assoc]
    congr 1
    funext n
    split
    · exact aB6 P ts e p _ f
    · rfl
  · rw [aPH]
    congr 1
    funext l
    exact aHf P t l _ f
theorem aAA (v : (SV m)) (k : (aE m) → Option α) (f : α → Option β) : (aP v k).bind f = aP v fun n => (k n).bind f := by unfold aP; split <;> rfl
theorem aMM (v : (SV m)) (k : Fl m → List (List (aE m)) → Option α) (f : α → Option β) : (pY v k).bind f = pY v fun c n => (k c n).bind f := by unfold pY; split <;> rfl
theorem aK0 (e : TypeId) (v : (SV m)) (k : List (List (aE m)) → Option α) (f : α → Option β) : (qH e v k).bind f = qH e v fun n => (k n).bind f := by
  unfold qH; split
  · split <;> rfl
  · rfl
theorem aPf (v : (SV m)) (k : List (aE m) → Option α) (f : α → Option β) : (eV v k).bind f = eV v fun n => (k n).bind f := by unfold eV; split <;> rfl
theorem aPB (v : (SV m)) (k : Option α) (f : α → Option β) : (aHo v k).bind f = aHo v (k.bind f) := by unfold aHo; split <;> rfl
theorem aPS (v : (SV m)) (k : List (SV m) → Option α) (f : α → Option β) : (mH v k).bind f = mH v fun n => (k n).bind f := by unfold mH; split <;> rfl
theorem aMg (l : List (SV m)) (k : (SV m) → List (SV m) → Option α) (f : α → Option β) : (dK l k).bind f = dK l fun v r => (k v r).bind f := by unfold dK; split <;> rfl
theorem aMY (l : List (SV m)) (k : Option α) (f : α → Option β) : (iX l k).bind f = iX l (k.bind f) := by unfold iX; split <;> rfl
theorem aE4 (P : Program) (own : Bool) (t : TypeId) (v : (SV m)) (k : (SV m) → Option α) (f : α → Option β) : (aFJ P own t v k).bind f = aFJ P own t v fun n => (k n).bind f := by
  unfold aFJ
  split
  · split
    · exact aK0 _ _ _ _
    · exact aMM _ _ _
  · rw [aPf]
    congr 1
    funext cs
    rw [Option.bind_assoc]
    congr 1
    funext ts
    rw [iM]
    congr 1
    exact aB6 P ts cs 0 _ f
  · exact aPB _ _ _
  · rw [aAA]
    congr 1
    funext l
    exact aHf P t l _ f
  · rfl
theorem aKV (P : Program) : ∀ (ts : List TypeId) (l : List (SV m)) (k : List (SV m) → Option α) (f : α → Option β), (aFR P ts l k).bind f = aFR P ts l fun n => (k n).bind f
  | [], l, k, f => aMY l _ f
  | t :: ts, l, k, f => by
    simp only [aFR]
    rw [aMg]
    congr 1
    funext v r
    rw [aE4]
    congr 1
    funext v'
    exact aKV P ts r _ f
theorem aQs (P : Program) (own : Bool) (t : TypeId) (v : (SV m)) (k : (SV m) → Option α) (f : α → Option β) : (aN1 P own t v k).bind f = aN1 P own t v fun n => (k n).bind f := by
  unfold aN1
  split
  · rw [aPS]
    congr 1
    funext vs
    exact aKV P _ vs _ f
  · exact aE4 P own t v k f
theorem aRg (c d : (SV m)) (k : (SV m) → Option α) (f : α → Option β) : (aNN c d k).bind f = aNN c d fun n => (k n).bind f := by
  unfold aNN
  split
  · rw [aAA]; congr 1; funext l; exact aN0 _ _ _ _
  · rw [aAA]; congr 1; funext l; exact aMa _ _ _
  · rw [aAA]; congr 1; funext l; exact aNP _ _ _
  · exact aMM _ _ _
  · exact aK0 _ _ _ _
  · rfl
theorem aLb : ∀ (cs l : List (SV m)) (k : List (SV m) → Option α) (f : α → Option β), (aFQ cs l k).bind f = aFQ cs l fun n => (k n).bind f
  | [], l, k, f => aMY l _ f
  | c :: cs, l, k, f => by
    simp only [aFQ]
    rw [aMg]
    congr 1
    funext v r
    rw [aRg]
    congr 1
    funext v'
    exact aLb cs r _ f
theorem aSg (w : Bool) (c d : List (SV m)) (k : List (SV m) → Option α) (f : α → Option β) : (aTZ w c d k).bind f = aTZ w c d fun n => (k n).bind f := by
  cases w
  · exact aLb c d k f
  · rfl
theorem aK2 : ∀ (ws : List Bool) (cs l : List (List (SV m))) (k : List (List (SV m)) → Option α) (f : α → Option β), (aAT ws cs l k).bind f = aAT ws cs l fun n => (k n).bind f
  | [], _, l, k, f => by simp only [aAT]; unfold mO; split <;> rfl
  | w :: ws, [], l, k, f => by simp only [aAT]; unfold mO; split <;> rfl
  | w :: ws, c :: cs, l, k, f => by
    simp only [aAT]
    unfold rE
    split
    · rw [aSg]
      congr 1
      funext v'
      exact aK2 ws cs _ _ f
    · rfl
theorem aSn (cs : List (SV m)) (p : Nat) (k : (SV m) → Option α) (f : α → Option β) : (aHz cs p k).bind f = aHz cs p fun n => (k n).bind f := by unfold aHz; split <;> rfl
theorem aQB (P : Program) (t : TypeId) (c : (SV m)) (k : (SV m) → Option α) (f : α → Option β) : (aNR P t c k).bind f = aNR P t c fun n => (k n).bind f := by
  unfold aNR; split
  · exact aE4 P false t _ k f
  · rfl
theorem aOq (P : Program) (own : Bool) (dst : Option Tmp) (t : TypeId) (v : (SV m)) (k : (SV m) → Option α) (f : α → Option β) : (aQT P own dst t v k).bind f = aQT P own dst t v fun n => (k n).bind f := by
  unfold aQT; split
  · rfl
  · exact aQs P own t v k f
variable {P : Program} {D : (cA m)}
theorem aPY (s : (St m)) (own pu : Bool) (g : FuncId) (args : List (SV m)) (dst : Option Tmp) (t : TypeId) (k : (St m) → Option α) (f : α → Option β) : (aJJ P D s own pu g args dst t k).bind f = aJJ P D s own pu g args dst t fun n => (k n).bind f := by
  unfold aJJ
  rw [iM]
  congr 1
  split
  · rw [iM, Option.bind_assoc]
    congr 1
    congr 1
    funext r
    exact aOq _ _ _ _ _ _ _
  · rw [Option.bind_assoc]
    congr 1
    funext cs
    rw [iM, Option.bind_assoc]
    congr 1
    congr 1
    funext r
    rw [aK2]
    congr 1
    funext bs
    exact aOq _ _ _ _ _ _ _
theorem xQ {nt : Nat} {mv pu ta : Bool} {o : Oper} {s : (St m)} (k : (St m) → Option α) (f : α → Option β) : (gG P D nt mv pu ta o s k).bind f = gG P D nt mv pu ta o s fun n => (k n).bind f := by
  rw [aFv, aFv, Option.bind_assoc]
theorem aL7 (x : Option (Bool × (SV m))) (k : (SV m) → Option α) (f : α → Option β) : (x.bind fun p => aA p.1 (k p.2)).bind f = x.bind fun p => aA p.1 ((k p.2).bind f) := by
  rw [Option.bind_assoc]; congr 1; funext p; exact iM _ _ _
theorem aMf {nt : Nat} {mv pu ta : Bool} {o : Oper} {s : (St m)} (k : (St m) → Option α) (f : α → Option β) : (gC P D nt mv pu ta o s k).bind f = gC P D nt mv pu ta o s fun n => (k n).bind f := by
  cases hop : o.op
  case pick c x z =>
    simp only [gC, hop]
    rw [aLj]
    congr 1
    funext b
    rw [aFq]
  case load t x =>
    simp only [gC, hop]
    split
    · exact aQv P t _ _ _ f
    · split
      · rw [Option.bind_assoc]
        congr 1
        funext cs
        rw [aSn]
        congr 1
        funext c
        exact aQB P t c _ f
      · exact xQ k f
    · exact xQ k f
  case store t x y =>
    simp only [gC, hop]
    split
    · rw [Option.bind_assoc]
      congr 1
      funext cs
      rw [Option.bind_assoc]
      congr 1
      funext n
      rw [iM, iM]
    · exact xQ k f
  case makeSlice t l c =>
    simp only [gC, hop]
    split
    · split
      · rw [iM, Option.bind_assoc]
        congr 1
        congr 1
        funext p
        exact iM _ _ _
      · rfl
    · rfl
  case binOp op t x z u => simp only [gC, hop]; exact aL7 _ (fun v => k (s.put o.dst v)) f
  case convert src dst x => simp only [gC, hop]; exact aL7 _ (fun v => k (s.put o.dst v)) f
  case slice t x lo hi mx =>
    cases mx with
    | some m => simp only [gC, hop]; exact xQ k f
    | none =>
      simp only [gC, hop]
      rw [Option.bind_assoc]; congr 1; funext l
      rw [Option.bind_assoc]; congr 1; funext h
      rw [Option.bind_assoc]; congr 1; funext p
      exact iM _ _ _
  case indexAddr t x i => simp only [gC, hop]; exact aL7 _ (fun v => k (s.put o.dst v)) f
  case index t x i => simp only [gC, hop]; exact aL7 _ (fun v => k (s.put o.dst v)) f
  case call c =>
    cases hc : c.callee with
    | invoke r m => simp only [gC, hop, hc]; exact xQ k f
    | value g =>
      simp only [gC, hop, hc]
      split
      · rw [iM, aPY]
      · rfl
    | builtin b =>
      cases b
      case append =>
        simp only [gC, hop, hc]
        split
        · rename_i x z _
          exact aL7 _ (fun v => k ((s.take x).put o.dst v)) f
        · rfl
      all_goals (simp only [gC, hop, hc]; exact xQ k f)
  all_goals (simp only [gC, hop]; exact xQ k f)
theorem aQZ {nt : Nat} {mv pu ta : Bool} {ops : Array Oper} {o : Oper} {s : (St m)} (k : (St m) → Option α) (f : α → Option β) : (aKa P D nt mv pu ta ops o s k).bind f = aKa P D nt mv pu ta ops o s fun n => (k n).bind f := by
  unfold aKa
  split
  · exact aMf k f
  · split
    · unfold aO7
      split
      · rw [aFq, aMf]
      · rfl
      · rfl
    · rfl
theorem aLc {nt : Nat} {mv pu ta : Nat → Bool} {ops : Array Oper} : ∀ (l : List Oper) (i : Nat) (s : (St m)) (k : (St m) → Option α) (f : α → Option β), (aBB P D nt mv pu ta ops l i s k).bind f = aBB P D nt mv pu ta ops l i s fun n => (k n).bind f
  | [], i, s, k, f => rfl
  | o :: l, i, s, k, f => by
    simp only [aBB]
    rw [aQZ]
    congr 1
    funext s'
    exact aLc l (i + 1) s' k f
end
theorem aMN {P : Program} {D : (cA m)} {H : gN} {loop : ((St m) → Option (Out m)) → ((St m) → Option (St m)) → (St m) → Option (Out m)} : ∀ (c : Code) (blk : Nat) {β γ : Type} (s : (St m)) (k : (Out m) → Option β) (f : β → Option γ), (dZ P D H loop blk c s k).bind f = dZ P D H loop blk c s fun o => (k o).bind f := by
  intro c
  induction c with
  | skip => intro blk β γ s k f; rfl
  | region id ops draw =>
    intro blk β γ s k f
    simp only [dZ, yA]
    rw [iM, aLc]
  | seq a b iha ihb =>
    intro blk β γ s k f
    simp only [dZ]
    rw [iha]
    congr 1
    funext o
    cases o with
    | norm s' => exact ihb blk s' k f
    | exit id s' => rfl
    | ret s' => rfl
  | cond x a b iha ihb =>
    intro blk β γ s k f
    simp only [dZ, yA]
    rw [aLj]
    congr 1
    funext t
    rw [aFq, iha, ihb]
  | block id a ih =>
    intro blk β γ s k f
    simp only [dZ]
    rw [ih]
    congr 1
    funext o
    cases o with
    | norm s' => rfl
    | exit id' s' => simp only [wN]; split <;> rfl
    | ret s' => rfl
  | loop a ih => intro blk β γ s k f; simp only [dZ]; rw [Option.bind_assoc]
  | exit id => intro blk β γ s k f; rfl
  | ret => intro blk β γ s k f; rfl
  | _ => intro blk β γ s k f; rfl
def aUs (ts bs : List Nat) (L : (St m) → Option (Out m)) : (Out m) → Option (Out m)
  | .norm s => (s.again ts bs).bind L
  | .exit id s => some (.exit id s)
  | .ret s => some (.ret s)
def aQN (P : Program) (D : (cA m)) (H : gN) (loop : ((St m) → Option (Out m)) → ((St m) → Option (St m)) → (St m) → Option (Out m)) (blk : Nat) (c : Code) (L : (St m) → Option (Out m)) (s : (St m)) : Option (Out m) :=
  (s.again (H.clear blk) (H.drop blk)).bind fun s => dZ P D H loop blk c s (aUs (H.clear blk) (H.drop blk) L)
noncomputable def aNL (P : Program) (D : (cA m)) (H : gN) (blk : Nat) (c : Code) : (St m) → Option (Out m) := bP (fun s => dZ P D H bP blk c s some) (fun s => s.again (H.clear blk) (H.drop blk))
theorem aEM {α : Type} (x : α) (ts : List Nat) : ∀ (l : List α), (∀ t ∈ ts, l[t]? = none ∨ l[t]? = some x) → ts.foldl (fun l t => l.set t x) l = l := by
  induction ts with
  | nil => intro l _; rfl
  | cons t ts ih =>
    intro l h
    have h0 : l.set t x = l := by
      rcases h t (by simp) with h | h
      · rw [List.set_eq_of_length_le (by simpa using h)]
      · apply List.ext_getElem?
        intro i
        by_cases hi : t = i
        · subst hi
          rw [List.getElem?_set_self (List.getElem?_eq_some_iff.1 h).1, h]
        · rw [List.getElem?_set_ne hi]
    rw [List.foldl_cons, h0]
    exact ih l fun u hu => h u (by simp [hu])
theorem aG7 {α : Type} (x : α) (ts : List Nat) : ∀ (l : List α), ∀ t ∈ ts, (ts.foldl (fun l t => l.set t x) l)[t]? = none ∨ (ts.foldl (fun l t => l.set t x) l)[t]? = some x := by
  have aCV : ∀ (ts : List Nat) (l : List α) (t : Nat), (l[t]? = none ∨ l[t]? = some x) → ((ts.foldl (fun l t => l.set t x) l)[t]? = none ∨ (ts.foldl (fun l t => l.set t x) l)[t]? = some x) := by
    intro ts
    induction ts with
    | nil => intro l t h; exact h
    | cons u ts ih =>
      intro l t h
      rw [List.foldl_cons]
      refine ih _ t ?_
      by_cases hu : u = t
      · subst hu
        by_cases hl : u < l.length
        · right; exact List.getElem?_set_self hl
        · left; exact List.getElem?_eq_none (by simpa using hl)
      · rw [List.getElem?_set_ne hu]; exact h
  induction ts with
  | nil => intro l t h; simp at h
  | cons u ts ih =>
    intro l t ht
    rw [List.foldl_cons]
    by_cases h : t ∈ ts
    · exact ih _ t h
    · have : t = u := by
        rcases List.mem_cons.1 ht with h' | h'
        · exact h'
        · exact absurd h' h
      subst this
      refine aCV ts _ t ?_
      by_cases hl : t < l.length
      · right; exact List.getElem?_set_self hl
      · left; exact List.getElem?_eq_none (by simpa using hl)
theorem aP5 (s : (St m)) (ts bs : List Nat) : (s.forget ts bs).forget ts bs = s.forget ts bs := by
  unfold St.forget
  congr 1
  · exact aEM _ _ _ (aG7 _ _ _)
  · exact aEM _ _ _ (aG7 _ _ _)
theorem aRf {s c : (St m)} {ts bs : List Nat} (h : s.again ts bs = some c) : c.again ts bs = some c := by
  unfold St.again at h ⊢
  obtain ⟨h1, h2⟩ := bS h
  simp only [Option.some.injEq] at h2
  subst h2
  rw [aP5, h1]
  rfl
theorem aP8 (P : Program) (D : (cA m)) (H : gN) (blk : Nat) (c : Code) (s : (St m)) : aNL P D H blk c s = (s.again (H.clear blk) (H.drop blk)).bind (aNL P D H blk c) := by
  unfold aNL
  rw [aKO]
  cases h : s.again (H.clear blk) (H.drop blk) with
  | none => rfl
  | some c' =>
    simp only [Option.bind_some]
    rw [aKO _ _ c', aRf h]
    rfl
theorem aQM (P : Program) (D : (cA m)) (H : gN) (blk : Nat) (c : Code) (s : (St m)) : aNL P D H blk c s = aQN P D H bP blk c (aNL P D H blk c) s := by
  show bP _ _ s = _
  rw [aKO]
  unfold aQN
  congr 1
  funext s'
  rw [aMN]
  congr 1
  funext o
  cases o with
  | norm s2 => exact aP8 P D H blk c s2
  | exit id s2 => rfl
  | ret s2 => rfl
end Go.Vs
end
