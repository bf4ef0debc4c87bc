/- What the program's functions compute, read off their text by the shadow runner (VsReg, VsCode, VsRun, VsMain, VsLim, VsFast, VsFast2, VsSub, VsLoop); no condition. -/
import Derived.LoopN
import Derived.Test.YtndacingbfeonaaGreatDoorVB1
section
namespace Go.Vs
variable {m : Bool}
variable {P : Program} {N : Env}
theorem aOn {D : (cD m)} {nt : Nat} {mv pu ta : Bool} {o : Oper} {ρ : Operand → (SV m)} {bs : (iC m)} {e : (Eff m)} (h : dG P D nt mv pu ta o ρ bs = some e) : (e.boxes.getD bs).length = bs.length := by
  have val : ∀ (v : Option (SV m)), v.map (fun v => (⟨uR o.dst v, none⟩ : (Eff m))) = some e → (e.boxes.getD bs).length = bs.length := by
    intro v hv
    rw [Option.map_eq_some_iff] at hv
    obtain ⟨_, _, rfl⟩ := hv
    rfl
  cases hop : o.op
  case move x => simp only [dG, hop] at h; split at h <;> (simp only [Option.some.injEq] at h; subst h; rfl)
  case assign x => simp only [dG, hop] at h; split at h <;> (simp only [Option.some.injEq] at h; subst h; rfl)
  case pick c x y =>
    simp only [dG, hop] at h
    obtain ⟨b, _, h⟩ := wI h
    rw [qE] at h
    cases b <;> simp at h <;> subst h <;> rfl
  case box t x =>
    simp only [dG, hop] at h
    split at h
    · split at h
      · obtain ⟨_, h⟩ := bW h
        simp only [Option.some.injEq] at h; subst h; simp
      · simp at h
    · simp at h
  case alloc t =>
    simp only [dG, hop] at h
    split at h
    · split at h
      · obtain ⟨_, h⟩ := bW h
        rw [Option.map_eq_some_iff] at h
        obtain ⟨_, _, rfl⟩ := h
        simp
      · simp at h
    · simp at h
  case build t ps => exact val _ (by simpa only [dG, hop] using h)
  case buildSlice t n ps => exact val _ (by simpa only [dG, hop] using h)
  case load t x =>
    simp only [dG, hop] at h
    split at h
    · exact val _ h
    · rw [Option.bind_eq_some_iff] at h
      obtain ⟨cs, _, h⟩ := h
      split at h
      · rw [Option.bind_eq_some_iff] at h
        obtain ⟨n, _, h⟩ := h
        split at h
        · rw [Option.map_eq_some_iff] at h
          obtain ⟨_, _, rfl⟩ := h
          rfl
        · simp at h
      · rw [Option.map_eq_some_iff] at h
        obtain ⟨c, _, h⟩ := h
        split at h <;> subst h <;> simp
    · simp at h
  case makeSlice t x y =>
    simp only [dG, hop] at h
    split at h
    · split at h
      · obtain ⟨_, h⟩ := bW h
        rw [Option.map_eq_some_iff] at h
        obtain ⟨_, _, rfl⟩ := h
        simp
      · simp at h
    · simp at h
  case store t x y =>
    simp only [dG, hop] at h
    split at h
    · split at h
      · exact val _ h
      · simp at h
    · rw [Option.bind_eq_some_iff] at h
      obtain ⟨cs, _, h⟩ := h
      rw [Option.bind_eq_some_iff] at h
      obtain ⟨n, _, h⟩ := h
      obtain ⟨_, h⟩ := bW h
      split at h
      · simp only [Option.some.injEq] at h; subst h; simp
      · simp at h
    · simp at h
  case nilCheck x =>
    simp only [dG, hop] at h
    split at h
    · exact val (some _) h
    · exact val (some _) h
    · simp at h
  case binOp op t x y p => exact val _ (by simpa only [dG, hop] using h)
  case unOp op p x => exact val _ (by simpa only [dG, hop] using h)
  case convert src dst x => exact val _ (by simpa only [dG, hop] using h)
  case makeFunc fn first caps =>
    simp only [dG, hop] at h
    split at h
    · split at h
      · obtain ⟨_, h⟩ := bW h
        exact val (some _) h
      · simp at h
    · simp at h
  case slice t x lo hi mx =>
    simp only [dG, hop] at h
    split at h
    · rw [Option.bind_eq_some_iff] at h
      obtain ⟨_, _, h⟩ := h
      rw [Option.bind_eq_some_iff] at h
      obtain ⟨_, _, h⟩ := h
      exact val _ h
    · simp at h
  case fieldAddr t x f => exact val _ (by simpa only [dG, hop] using h)
  case field t x f =>
    simp only [dG, hop] at h
    split at h
    · rw [Option.bind_eq_some_iff] at h
      obtain ⟨_, _, h⟩ := h
      exact val _ h
    · simp at h
  case indexAddr t x i => exact val _ (by simpa only [dG, hop] using h)
  case index t x i => exact val _ (by simpa only [dG, hop] using h)
  case extract x i =>
    simp only [dG, hop] at h
    split at h
    · rw [Option.bind_eq_some_iff] at h
      obtain ⟨_, _, h⟩ := h
      exact val (some _) h
    · simp at h
  case call c =>
    cases hc : c.callee with
    | invoke r m => simp only [dG, hop, hc] at h; simp at h
    | builtin b =>
      simp only [dG, hop, hc] at h
      split at h
      · rw [Option.map_eq_some_iff] at h
        obtain ⟨_, _, rfl⟩ := h
        rfl
      · exact val _ h
      · exact val _ h
      · exact val _ h
      · simp at h
    | value g =>
      simp only [dG, hop, hc] at h
      split at h
      · obtain ⟨_, h⟩ := bW h
        rw [Option.map_eq_some_iff] at h
        obtain ⟨q, hq, rfl⟩ := h
        obtain ⟨_, cs, r, _, _, _, _, h2⟩ := aQB hq
        simp only
        rw [h2, aFa]
      · simp at h
  all_goals (simp only [dG, hop] at h; simp at h)
section
variable {D : (cD m)} {ops : Array Oper} {nt : Nat} {mv pu ta : Nat → Bool}
theorem aGJ {mq p qa : Bool} {o : Oper} {s : (St m)} {e : (Eff m)} (h : oC P D nt mq p qa ops o s = some e) : (e.app s).boxes.length = s.boxes.length := by
  unfold oC at h
  split at h
  · exact aOn h
  · split at h
    · unfold rV at h
      split at h
      · rw [qE] at h
        split at h
        · exact aOn h
        · simp only [Option.some.injEq] at h; subst h; rfl
      · simp only [Option.some.injEq] at h; subst h; rfl
      · simp at h
    · simp at h
theorem nC.trans {s1 s2 : (St m)} {a0 a1 a2 : Act} {w0 w1 w2 : World} {F0 : Fr} {O0 : Own} {b0 : Nat → Nat} (h : nC P N nt s1 a0 w0 F0 O0 b0 a1 w1)
    (k : ∀ F1 O1 b1, Inv P s1 a1.tmps w1 F1 N O1 b1 → nC P N nt s2 a1 w1 F1 O1 b1 a2 w2) : nC P N nt s2 a0 w0 F0 O0 b0 a2 w2 := by
  obtain ⟨F1, O1, b1, h1, h2, h3, h4⟩ := h
  obtain ⟨F2, O2, b2, k1, k2, k3, k4⟩ := k F1 O1 b1 h1
  exact ⟨F2, O2, b2, k1, h2.trans k2, fun b hb => (k3 b hb).trans (h3 b hb), k4.trans h4⟩
theorem nC.inv {s1 : (St m)} {a0 a1 : Act} {w0 w1 : World} {F0 : Fr} {O0 : Own} {b0 : Nat → Nat} (h : nC P N nt s1 a0 w0 F0 O0 b0 a1 w1) : ∃ F1 O1 b1, Inv P s1 a1.tmps w1 F1 N O1 b1 ∧
    (∀ (s2 : (St m)) (a2 : Act) (w2 : World), nC P N nt s2 a1 w1 F1 O1 b1 a2 w2 → nC P N nt s2 a0 w0 F0 O0 b0 a2 w2) := by
  obtain ⟨F1, O1, b1, h1, h2, h3, h4⟩ := h
  refine ⟨F1, O1, b1, h1, fun s2 a2 w2 => ?_⟩
  rintro ⟨F2, O2, b2, k1, k2, k3, k4⟩
  exact ⟨F2, O2, b2, k1, h2.trans k2, fun b hb => (k3 b hb).trans (h3 b hb), k4.trans h4⟩
theorem nC.refl {s : (St m)} {a : Act} {w : World} {F : Fr} {O : Own} {b : Nat → Nat} (h : Inv P s a.tmps w F N O b) : nC P N nt s a w F O b a w := ⟨F, O, b, h, Far.refl _ _ _, fun _ _ => rfl, rfl⟩
theorem aPO {s : (St m)} {a : Act} {w : World} {F : Fr} {Ow : Own} {bm : Nat → Nat} (h : Inv P s a.tmps w F N Ow bm) {j : Nat} {t : Tmp} (hj : (ops[j]?).bind (·.dst) = some t) {b : Bool} (hb : s.tmps.getD t .any = .leaf (.bool b)) :
    yielded ops a.tmps j = some b := by
  have hs := h.slot t
  rw [hb] at hs
  have hv := tP (hs.leafOf _ rfl)
  unfold yielded
  rw [hj]
  simp only [Option.bind_some]
  rcases Nat.lt_or_ge t a.tmps.size with hl | hl
  · rw [Array.getElem?_eq_getElem hl]
    have : a.tmps[t] = .bool b := by simpa [Array.getD, hl] using hv
    rw [this]
  · simp [Array.getD, Nat.not_lt.2 hl, undef] at hv
theorem aQe {s : (St m)} {a : Act} {w : World} {F : Fr} {Ow : Own} {bm : Nat → Nat} (h : Inv P s a.tmps w F N Ow bm) {j : Nat} {t : Tmp} (hj : (ops[j]?).bind (·.dst) = some t) (hb : s.tmps.getD t .any = .skip) :
    yielded ops a.tmps j = none := by
  have hs := h.slot t
  rw [hb] at hs
  have hv : a.tmps.getD t undef = undef := by simpa only [bD, eP] using hs
  unfold yielded
  rw [hj]
  simp only [Option.bind_some]
  rcases Nat.lt_or_ge t a.tmps.size with hl | hl
  · rw [Array.getElem?_eq_getElem hl]
    have : a.tmps[t] = undef := by simpa [Array.getD, hl] using hv
    rw [this]
    rfl
  · rw [Array.getElem?_eq_none hl]
theorem aND (hD : nW P N D) {s : (St m)} {a : Act} {w : World} {F : Fr} {Ow : Own} {bm : Nat → Nat} (h : Inv P s a.tmps w F N Ow bm) (hnt : nt ≤ s.boxes.length) {i : Nat} {o : Oper} (ho : ops[i]? = some o) {mq p qa : Bool} {e : (Eff m)}
    (he : oC P D nt mq p qa ops o s = some e) {K : Act → World → Prop} {Q : Exit → Act → World → Prop} (hk : ∀ a' w', nC P N nt (e.app s) a w F Ow bm a' w' → K a' w') : wpOp P ops Q i K a w := by
  unfold wpOp
  rw [ho]
  simp only
  have run : dG P D nt mq p qa o s.eval s.boxes = some e → Region.wanted o (yielded ops a.tmps) = true →
      if Region.wanted o (yielded ops a.tmps) = true then o.wp P a w K Q ∨ (o.asks P a w ∧ LetsOut Q) else K (a.put o.dst undef) w := by
    intro he hw
    rw [if_pos hw]
    exact .inl (aTJ hD h hnt he hk)
  have pass : (⟨uR o.dst .skip, none⟩ : (Eff m)) = e → Region.wanted o (yielded ops a.tmps) = false →
      if Region.wanted o (yielded ops a.tmps) = true then o.wp P a w K Q ∨ (o.asks P a w ∧ LetsOut Q) else K (a.put o.dst undef) w := by
    rintro rfl hw
    rw [if_neg (by rw [hw]; simp)]
    refine hk _ _ ⟨F, Ow, bm, ?_, Far.refl _ _ _, fun _ _ => rfl, kR _ _⟩
    rw [aKe]
    exact Inv.put (a := a) h fun d _ => by simp only [bD, eP]
  unfold oC at he
  split at he
  · rename_i hg
    exact run he (by simp [Region.wanted, hg])
  · rename_i j want hg
    split at he
    · rename_i t ht
      unfold rV at he
      split at he
      · rename_i b hb
        have hy := aPO h ht hb
        rw [qE] at he
        split at he
        · rename_i hbw
          exact run he (by simp [Region.wanted, hg, hy]; simpa using hbw)
        · rename_i hbw
          exact pass (by simpa using he) (by simp [Region.wanted, hg, hy]; simpa using hbw)
      · rename_i hb
        have hy := aQe h ht hb
        exact pass (by simpa using he) (by simp [Region.wanted, hg, hy])
      · simp at he
    · simp at he
theorem aTH (hD : nW P N D) {s' : (St m)} {Q : Exit → Act → World → Prop} : ∀ (fuel : Nat) (listed : Array Bool) (s : (St m)) (a : Act) (w : World) (F : Fr) (Ow : Own) (bm : Nat → Nat), Inv P s a.tmps w F N Ow bm → nt ≤ s.boxes.length →
    aTW P D nt mv pu ta ops (· = s') fuel listed s → (∀ a' w', nC P N nt s' a w F Ow bm a' w' → Q .normal a' w') → wpAny P .any ops Q fuel listed a w := by
  intro fuel
  induction fuel with
  | zero =>
    intro listed s a w F Ow bm h _ hA hk
    obtain ⟨h1, rfl⟩ := hA
    exact ⟨h1, hk a w (nC.refl h)⟩
  | succ fuel ih =>
    intro listed s a w F Ow bm h hnt hA hk
    refine ⟨fun h0 => ?_, fun i hi => ?_⟩
    · obtain rfl := hA.1 h0
      exact hk a w (nC.refl h)
    · obtain ⟨o, e, ho, he, hrest⟩ := hA.2 i hi
      refine aND hD h hnt ho he fun a' w' hst => ?_
      obtain ⟨F1, O1, b1, h1, htr⟩ := hst.inv
      exact ih _ _ a' w' F1 O1 b1 h1 (by rw [aGJ he]; exact hnt) hrest fun a2 w2 h2 => hk a2 w2 (htr _ _ _ h2)
theorem aQH (hD : nW P N D) {s' : (St m)} {Q : Exit → Act → World → Prop} : ∀ (l : List Oper) (k : Nat) (s : (St m)) (a : Act) (w : World) (F : Fr) (Ow : Own) (bm : Nat → Nat), (∀ j, l[j]? = ops[k + j]?) → Inv P s a.tmps w F N Ow bm → nt ≤ s.boxes.length →
    mJ P D nt mv pu ta ops l k s some = some s' → (∀ a' w', nC P N nt s' a w F Ow bm a' w' → Q .normal a' w') → wpOps P ops Q (List.range' k l.length) a w := by
  intro l
  induction l with
  | nil =>
    intro k s a w F Ow bm _ h _ hs hk
    simp only [mJ, Option.some.injEq] at hs
    subst hs
    exact hk a w (nC.refl h)
  | cons o l ih =>
    intro k s a w F Ow bm hl h hnt hs hk
    have h0 : ops[k]? = some o := by simpa using (hl 0).symm
    simp only [mJ, aBs] at hs
    obtain ⟨e, he, hrest⟩ := Option.bind_eq_some_iff.1 hs
    rw [List.length_cons, List.range'_succ, wpOps_cons]
    refine aND hD h hnt h0 he fun a' w' hst => ?_
    obtain ⟨F1, O1, b1, h1, htr⟩ := hst.inv
    exact ih (k + 1) _ a' w' F1 O1 b1 (fun j => by have := hl (j + 1); simpa [Nat.add_assoc, Nat.add_comm 1 j] using this) h1 (by rw [aGJ he]; exact hnt) hrest fun a2 w2 h2 => hk a2 w2 (htr _ _ _ h2)
theorem oE {β : Type} : ∀ (l : List Oper) (i : Nat) (s : (St m)) (k : (St m) → Option β), mJ P D nt mv pu ta ops l i s k = (mJ P D nt mv pu ta ops l i s some).bind k
  | [], i, s, k => rfl
  | o :: l, i, s, k => by
    simp only [mJ, aBs, Option.bind_assoc]
    congr 1
    funext e
    exact oE l (i + 1) _ k
theorem aJW : ∀ (l : List Oper) (i : Nat) (s s' : (St m)), mJ P D nt mv pu ta ops l i s some = some s' → s'.boxes.length = s.boxes.length
  | [], i, s, s', h => by simp only [mJ, Option.some.injEq] at h; subst h; rfl
  | o :: l, i, s, s', h => by
    simp only [mJ, aBs] at h
    obtain ⟨e, he, hrest⟩ := Option.bind_eq_some_iff.1 h
    rw [aJW l (i + 1) _ s' hrest, aGJ he]
theorem aUN {s : (St m)} {tmps : Array Value} {w : World} {F : Fr} {Ow : Own} {bm : Nat → Nat} (h : Inv P s tmps w F N Ow bm) : Inv P s tmps { w with drawn := w.drawn + 1 } F N Ow bm ∧ Far N w F Ow { w with drawn := w.drawn + 1 } F Ow := by
  have hk : hM N w F { w with drawn := w.drawn + 1 } F := .mk' (fun _ _ _ => rfl) (fun _ => Nat.le_refl _) fun _ h => h
  exact ⟨h.to hk (Nat.le_refl _) (fun _ _ => rfl) (fun g loc hg _ => ⟨rfl, rfl, hg⟩) (fun g hg => h.new g hg) h.zow, ⟨rfl, rfl, rfl, Nat.le_refl _, hk, fun g _ hg => ⟨fun _ => rfl, rfl, hg⟩⟩⟩
theorem aPM (hP : P.follows .mixedOrders = true) (hD : nW P N D) {s s' : (St m)} {a : Act} {w : World} {F : Fr} {Ow : Own} {bm : Nat → Nat} {id : Nat} {draw : Bool} (h : Inv P s a.tmps w F N Ow bm) (hnt : nt ≤ s.boxes.length)
    (hd : draw = true → aBC mv pu ta ops = true) (hs : mJ P D nt mv pu ta ops ops.toList 0 s some = some s') {Q : Exit → Act → World → Prop} (hk : ∀ a' w', nC P N nt s' a w F Ow bm a' w' → Q .normal a' w') : (Code.region id ops draw).wp P Q a w := by
  cases draw with
  | false =>
    refine wp_region ?_
    have := aQH (mv := mv) (pu := pu) (Q := Q) hD ops.toList 0 s a w F Ow bm (fun j => by simp) h hnt hs hk
    rwa [← List.range_eq_range', Array.length_toList] at this
  | true =>
    obtain ⟨h1, h2⟩ := aUN h
    refine wp_region_any hP ?_
    refine aTH hD ops.size _ s a _ F Ow bm h1 hnt (aRI (hd rfl) hs) fun a' w' hst => hk a' w' ?_
    obtain ⟨F1, O1, b1, k1, k2, k3, k4⟩ := hst
    exact ⟨F1, O1, b1, k1, h2.trans k2, k3, k4⟩
end
end Go.Vs
end
section
namespace Go.Vs
variable {m : Bool}
variable {P : Program} {N : Env}
theorem aNS (ts : List Nat) : ∀ (l : List (SV m)) (t : Nat), (ts.foldl (fun l t => l.set t .any) l).length = l.length ∧
    ((ts.foldl (fun l t => l.set t .any) l).getD t .any = .any ∨ (ts.foldl (fun l t => l.set t .any) l).getD t .any = l.getD t .any) := by
  induction ts with
  | nil => intro l t; exact ⟨rfl, .inr rfl⟩
  | cons u ts ih =>
    intro l t
    obtain ⟨h1, h2⟩ := ih (l.set u .any) t
    refine ⟨by rw [List.foldl_cons, h1]; simp, ?_⟩
    rw [List.foldl_cons]
    rcases h2 with h2 | h2
    · exact .inl h2
    · rw [h2]
      by_cases hu : t = u
      · subst hu
        left
        by_cases hl : t < l.length
        · rw [List.getD_eq_getElem?_getD, List.getElem?_set_self hl]; rfl
        · rw [List.getD_eq_getElem?_getD, List.getElem?_eq_none (by simpa using hl)]; rfl
      · right
        rw [List.getD_eq_getElem?_getD, List.getElem?_set_ne (fun e => hu e.symm), ← List.getD_eq_getElem?_getD]
theorem aMd (bs : List Nat) : ∀ (l : (iC m)), (bs.foldl (fun l b => l.set b none) l).length = l.length ∧ ∀ b, (b ∉ bs → bP (bs.foldl (fun l b => l.set b none) l) b = bP l b) ∧ (b ∈ bs → bP (bs.foldl (fun l b => l.set b none) l) b = none) := by
  induction bs with
  | nil => intro l; exact ⟨rfl, fun b => ⟨fun _ => rfl, by simp⟩⟩
  | cons c bs ih =>
    intro l
    obtain ⟨h1, h2⟩ := ih (l.set c none)
    refine ⟨by rw [List.foldl_cons, h1]; simp, fun b => ⟨fun hb => ?_, fun hb => ?_⟩⟩
    · rw [List.mem_cons, not_or] at hb
      rw [List.foldl_cons, (h2 b).1 hb.2, oP hb.1]
    · rw [List.foldl_cons]
      by_cases hb2 : b ∈ bs
      · exact (h2 b).2 hb2
      · have : b = c := by
          rcases List.mem_cons.1 hb with h | h
          · exact h
          · exact absurd h hb2
        subst this
        rw [(h2 b).1 hb2]
        by_cases hl : b < l.length
        · rw [fO hl]
        · unfold bP
          rw [List.getD_eq_getElem?_getD, List.getElem?_eq_none (by simpa using hl)]; rfl
theorem eP.fewer {w : World} {F : Fr} {bm : Nat → Nat} {al al' : Nat → Bool} {bs : List Nat} {x : (SV m)} {v : Value} (h : eP w F N bm al x v) (hn : x.noPtr bs = true) (ha : ∀ b, b ∉ bs → al b = true → al' b = true) : eP w F N bm al' x v := by
  cases x with
  | ptr b o =>
    simp only [eP] at h ⊢
    exact ⟨h.1, ha b (by simpa [SV.noPtr] using hn) h.2⟩
  | bsl b z lo n =>
    simp only [eP] at h ⊢
    obtain ⟨cap, h1, h2, h3⟩ := h
    exact ⟨cap, h1, h2, ha b (by simpa [SV.noPtr] using hn) h3⟩
  | _ => exact h
theorem bD.fewer {w : World} {F : Fr} {Ow : Own} {bm : Nat → Nat} {al al' : Nat → Bool} {bs : List Nat} {loc : Loc} {x : (SV m)} {v : Value} (h : bD P w F N Ow bm al loc x v) (hn : x.noBox bs = true) (ha : ∀ b, b ∉ bs → al b = true → al' b = true) : bD P w F N Ow bm al' loc x v := by
  cases x with
  | ptr b o =>
    have h' : eP (m := m) w F N bm al (.ptr b o) v := by simpa only [bD] using h
    simpa only [bD] using h'.fewer hn ha
  | bsl b z lo n =>
    have h' : eP (m := m) w F N bm al (.bsl b z lo n) v := by simpa only [bD] using h
    simpa only [bD] using h'.fewer hn ha
  | fn g caps =>
    obtain ⟨vs, e, hs, hc⟩ := h
    exact ⟨vs, e, hs, fun j c u a b => (hc j c u a b).fewer (List.all_eq_true.1 hn c (List.mem_of_getElem? a)) ha⟩
  | tup cs =>
    obtain ⟨vs, e, hs, hc⟩ := h
    exact ⟨vs, e, hs, fun j c u a b => (hc j c u a b).fewer (List.all_eq_true.1 hn c (List.mem_of_getElem? a)) ha⟩
  | own eo es => exact h
  | leaf l => exact h
  | agg cs => exact h
  | nilptr => exact h
  | nilface => exact h
  | any => exact h
  | skip => exact h
  | eptr c e o => exact h
section
variable {s : (St m)} {a : Act} {w : World} {F : Fr} {Ow : Own} {bm : Nat → Nat} {nt : Nat}
theorem Inv.again {tmps : Array Value} (h : Inv P s tmps w F N Ow bm) {ts bs : List Nat} {s' : (St m)} (hs : s.again ts bs = some s') : Inv P s' tmps w F N Ow bm ∧ s'.boxes.length = s.boxes.length := by
  unfold St.again at hs
  obtain ⟨hn, hs⟩ := bW hs
  simp only [Option.some.injEq] at hs
  subst hs
  obtain ⟨hl, hb⟩ := aMd bs s.boxes
  refine ⟨?_, hl⟩
  have slotRep : ∀ t, bD P w F N Ow bm s.al (.tmp t) ((s.forget ts bs).tmps.getD t .any) (tmps.getD t undef) := by
    intro t
    rcases (aNS ts s.tmps t).2 with h2 | h2
    · show bD P w F N Ow bm s.al (.tmp t) ((ts.foldl (fun l t => l.set t .any) s.tmps).getD t .any) _
      rw [h2]; exact bD.any
    · show bD P w F N Ow bm s.al (.tmp t) ((ts.foldl (fun l t => l.set t .any) s.tmps).getD t .any) _
      rw [h2]; exact h.slot t
  have ha : ∀ b, b ∉ bs → s.al b = true → (s.forget ts bs).al b = true := by
    intro b hb' hal
    show (bP (bs.foldl (fun l b => l.set b none) s.boxes) b).isSome = true
    rw [(hb b).1 hb']; exact hal
  have hbox : ∀ b cs, bP (s.forget ts bs).boxes b = some cs → b ∉ bs ∧ bP s.boxes b = some cs := by
    intro b cs hbc
    have hbc' : bP (bs.foldl (fun l b => l.set b none) s.boxes) b = some cs := hbc
    by_cases hm : b ∈ bs
    · rw [(hb b).2 hm] at hbc'; simp at hbc'
    · rw [(hb b).1 hm] at hbc'; exact ⟨hm, hbc'⟩
  unfold St.noBox at hn
  rw [Bool.or_eq_true] at hn
  have fewer : ∀ (loc : Loc) (x : (SV m)) (v : Value), (bs.isEmpty = false → x.noBox bs = true) → bD P w F N Ow bm s.al loc x v → bD P w F N Ow bm (s.forget ts bs).al loc x v := by
    intro loc x v hx hr
    cases hbe : bs.isEmpty with
    | false => exact hr.fewer (hx hbe) ha
    | true =>
      have : bs = [] := by simpa using hbe
      subst this
      exact hr
  refine ⟨by rw [← h.len]; exact (aNS ts s.tmps 0).1, fun t => ?_, fun b cs hbc => ?_, h.low, h.new, fun b cs hbc => h.bmn b cs (hbox b cs hbc).2, h.zow⟩
  · refine fewer _ _ _ (fun hbe => ?_) (slotRep t)
    rcases hn with hn | hn
    · rw [hbe] at hn; simp at hn
    · rw [Bool.and_eq_true] at hn
      rcases Nat.lt_or_ge t (s.forget ts bs).tmps.length with ht | ht
      · rw [List.getD_eq_getElem?_getD, List.getElem?_eq_getElem ht]
        exact List.all_eq_true.1 hn.1 _ (List.getElem_mem ht)
      · rw [List.getD_eq_getElem?_getD, List.getElem?_eq_none ht]; rfl
  · obtain ⟨hm, hbc'⟩ := hbox b cs hbc
    obtain ⟨cur, e, g1, g2, g3, g4, g5⟩ := h.box b cs hbc'
    refine ⟨cur, e, g1, g2, g3, g4, fun j c u hc hu => fewer _ _ _ (fun hbe => ?_) (g5 j c u hc hu)⟩
    rcases hn with hn | hn
    · rw [hbe] at hn; simp at hn
    · rw [Bool.and_eq_true] at hn
      have hlt := aAU hbc
      have : (s.forget ts bs).boxes[b]? = some (some cs) := by
        have hbc2 := hbc
        unfold bP at hbc2
        rw [List.getD_eq_getElem?_getD, List.getElem?_eq_getElem hlt] at hbc2
        rw [List.getElem?_eq_getElem hlt]
        simpa using hbc2
      have h1 := List.all_eq_true.1 hn.2 _ (List.mem_of_getElem? this)
      exact List.all_eq_true.1 h1 c (List.mem_of_getElem? hc)
theorem Inv.tidy {tmps : Array Value} (h : Inv P s tmps w F N Ow bm) (ts bs : List Nat) : Inv P (s.tidy ts bs) tmps w F N Ow bm ∧ (s.tidy ts bs).boxes.length = s.boxes.length := by
  have h0 := h.again (ts := ts) (bs := []) (by simp [St.again, St.noBox, aB]; rfl)
  cases bs with
  | nil => exact h0
  | cons b bs =>
    simp only [St.tidy]
    cases hs : s.again ts ((b :: bs).filter fun b => !(s.forget ts []).refs.contains b) with
    | some s' => exact h.again hs
    | none => exact h0
theorem nC.tidy {s' : (St m)} {a' : Act} {w' : World} (h : nC P N nt s' a w F Ow bm a' w') (ts bs : List Nat) : nC P N nt (s'.tidy ts bs) a w F Ow bm a' w' := by
  obtain ⟨F1, O1, b1, h1, h2⟩ := h
  exact ⟨F1, O1, b1, (h1.tidy ts bs).1, h2⟩
theorem Inv.dropC {tmps : Array Value} (h : Inv P s tmps w F N Ow bm) (d : Nat → List Nat × List Nat) (c : Operand) : Inv P (s.dropC d c) tmps w F N Ow bm ∧ (s.dropC d c).boxes.length = s.boxes.length := by
  cases c with
  | tmp t =>
    exact h.tidy (d t).1 (d t).2
  | _ => exact ⟨h, rfl⟩
theorem aQX (s : (St m)) (ts bs : List Nat) : (s.tidy ts bs).boxes.length = s.boxes.length := by
  have key : ∀ (s : (St m)) ts bs, (s.forget ts bs).boxes.length = s.boxes.length := fun s ts bs => (aMd bs s.boxes).1
  cases bs with
  | nil => exact key _ _ _
  | cons b bs =>
    simp only [St.tidy]
    cases hs : s.again ts ((b :: bs).filter fun b => !(s.forget ts []).refs.contains b) with
    | some s' =>
      unfold St.again at hs
      obtain ⟨_, hs⟩ := bW hs
      simp only [Option.some.injEq] at hs
      subst hs
      exact key _ _ _
    | none => exact key _ _ _
theorem aKE : ∀ {cs : List (SV m)} {ls : List (aF m)}, dV cs = some ls → ls.length = cs.length
  | [], ls, h => by simp only [dV, Option.some.injEq] at h; subst h; rfl
  | c :: r, ls, h => by
    simp only [dV, Option.bind_eq_some_iff, Option.map_eq_some_iff] at h
    obtain ⟨l, _, ls', h1, rfl⟩ := h
    simp [aKE h1]
theorem aMk : ∀ {cs : List (SV m)} {ls : List (aF m)} {j : Nat} {l : aF m}, dV cs = some ls → ls[j]? = some l → ∃ c, cs[j]? = some c ∧ asLeaf c = some l
  | [], ls, j, l, h, hj => by simp only [dV, Option.some.injEq] at h; subst h; simp at hj
  | c :: r, ls, j, l, h, hj => by
    simp only [dV, Option.bind_eq_some_iff, Option.map_eq_some_iff] at h
    obtain ⟨l', h0, ls', h1, rfl⟩ := h
    cases j with
    | zero => simp at hj; subst hj; exact ⟨c, rfl, h0⟩
    | succ j => simp at hj; obtain ⟨c', a, b⟩ := aMk h1 hj; exact ⟨c', by simpa using a, b⟩
theorem bD.asLeaf {w : World} {F : Fr} {Ow : Own} {bm : Nat → Nat} {al : Nat → Bool} {loc : Loc} {x : (SV m)} {v : Value} {l : aF m} (h : bD P w F N Ow bm al loc x v) (hl : asLeaf x = some l) : eW w F N l v := by
  cases x <;> simp only [Vs.asLeaf, Option.some.injEq] at hl <;> try (cases hl; done)
  · subst hl; exact h
  · subst hl; exact yG.leaf h
theorem eP.frz {F' : Fr} {al al' : Nat → Bool} {b : Nat} {ls : List (aF m)} {vals : List Value} (hF : ∀ g, F g ≤ F' g) (hb : ls.length ≤ F' (bm b)) (hn : N.n ≤ bm b) (hr : dJ w F' N ls vals) (hc : ∀ (j : Nat) (u : Value), vals[j]? = some u → w.cell? ⟨bm b, j, none⟩ = some u)
    (ha : ∀ b', b' ≠ b → al b' = true → al' b' = true) {x : (SV m)} {v : Value} (h : eP w F N bm al x v) : eP w F' N bm al' (x.frzF b ls) v := by
  have k : hM N w F w F' := .mk' (fun _ _ _ => rfl) hF fun _ h => h
  have h := h.keeps k
  cases x with
  | ptr b' o =>
    simp only [SV.frzF]
    simp only [eP] at h
    split
    · rename_i e
      subst e
      refine ⟨bm b', 0, vals, by rw [Nat.zero_add]; exact h.1, by omega, ⟨by cases m <;> trivial, fun hz => absurd (N.lt _ hz) (by omega)⟩, hr, fun j u hj => by rw [Nat.zero_add]; exact hc j u hj⟩
    · rename_i e
      exact ⟨h.1, ha _ e h.2⟩
  | bsl b' z lo n =>
    simp only [SV.frzF]
    split
    · trivial
    · rename_i e
      obtain ⟨cap, h1, h2, h3⟩ := h
      exact ⟨cap, h1, h2, ha _ e h3⟩
  | _ => exact h
theorem Inv.freeze1 {tmps : Array Value} (h : Inv P s tmps w F N Ow bm) (b : Nat) : ∃ F' Ow', Inv P (s.freeze1 b) tmps w F' N Ow' bm ∧ Far N w F Ow w F' Ow' := by
  unfold St.freeze1
  split
  · rename_i ls hls
    rw [Option.bind_eq_some_iff] at hls
    obtain ⟨cs, hcs, hls⟩ := hls
    obtain ⟨cur, e, g1, g2, g3, g4, g5⟩ := h.box b cs hcs
    have hlt := aAU hcs
    have hn := h.bmn b cs hcs
    let F' : Fr := fun g => if g = bm b then cs.length else F g
    let Ow' : Own := fun g => if g = bm b then none else Ow g
    have hF : ∀ g, F g ≤ F' g := fun g => by
      show F g ≤ if g = bm b then cs.length else F g
      split
      · rename_i hg; rw [hg, g3]; exact Nat.zero_le _
      · exact Nat.le_refl _
    have hFb : F' (bm b) = cs.length := if_pos rfl
    have kp : hM N w F w F' := .mk' (fun _ _ _ => rfl) hF fun _ h => h
    have hlen : ls.length = cs.length := aKE hls
    have hr : dJ w F' N ls cur.toList := by
      refine ⟨by rw [hlen, ← g2]; simp, fun j l u hl hu => ?_⟩
      obtain ⟨c, hc, hcl⟩ := aMk hls hl
      have := g5 j c u hc (by simpa using hu)
      exact (this.asLeaf hcl).keeps kp
    have hc : ∀ (j : Nat) (u : Value), cur.toList[j]? = some u → w.cell? ⟨bm b, j, none⟩ = some u := fun j u hj => by
      simp only [World.cell?, g1]
      simpa using hj
    let al' : Nat → Bool := fun b' => (bP ((s.boxes.set b none).map (Option.map (List.map (SV.frz b ls)))) b').isSome
    have bat : ∀ b', bP ((s.boxes.set b none).map (Option.map (List.map (SV.frz b ls)))) b' = if b' = b then none else (bP s.boxes b').map (List.map (SV.frz b ls)) := fun b' => by
      have e1 : bP ((s.boxes.set b none).map (Option.map (List.map (SV.frz b ls)))) b' = (bP (s.boxes.set b none) b').map (List.map (SV.frz b ls)) := by
        unfold bP
        rw [List.getD_eq_getElem?_getD, List.getD_eq_getElem?_getD, List.getElem?_map]
        cases (s.boxes.set b none)[b']? <;> rfl
      rw [e1]
      split
      · rename_i hb; subst hb; rw [fO hlt]; rfl
      · rename_i hb; rw [oP hb]
    have ha : ∀ b', b' ≠ b → s.al b' = true → al' b' = true := fun b' hb hal => by
      show (bP ((s.boxes.set b none).map (Option.map (List.map (SV.frz b ls)))) b').isSome = true
      rw [bat, if_neg hb]
      have : (bP s.boxes b').isSome = true := hal
      cases hx : bP s.boxes b' with
      | none => rw [hx] at this; simp at this
      | some y => rfl
    have hOw : ∀ (loc : Loc), (∀ k, loc ≠ .blk k) → ∀ g, Ow g = some loc → w.heap[g]? = w.heap[g]? ∧ F' g = F g ∧ Ow' g = some loc := fun loc hloc g hg => by
      have hgb : g ≠ bm b := fun hx => by
        subst hx
        rw [g4] at hg
        simp only [Option.some.injEq] at hg
        exact hloc b hg.symm
      exact ⟨rfl, if_neg hgb, by show (if g = bm b then none else Ow g) = _; rw [if_neg hgb]; exact hg⟩
    have conv : ∀ (loc : Loc) (x : (SV m)) (v : Value), (∀ k, loc ≠ .blk k) → bD P w F N Ow bm s.al loc x v → bD P w F' N Ow' bm al' loc (x.frz b ls) v := fun loc x v hloc hx => by
      have fr : ∀ {x : (SV m)} {v : Value}, eP w F N bm s.al x v → eP w F' N bm al' (x.frzF b ls) v := fun hx => hx.frz hF (Nat.le_of_eq (hlen.trans hFb.symm)) hn hr hc ha
      have many : ∀ (l : List (SV m)) (vs : Array Value), (∀ (j : Nat) (c : (SV m)) (u : Value), l[j]? = some c → vs[j]? = some u → eP w F N bm s.al c u) →
          ∀ (j : Nat) (c : (SV m)) (u : Value), (l.map (SV.frzF b ls))[j]? = some c → vs[j]? = some u → eP w F' N bm al' c u := fun l vs hl j c u hj hu => by
        simp only [List.getElem?_map, Option.map_eq_some_iff] at hj
        obtain ⟨c', hc', rfl⟩ := hj
        exact fr (hl j c' u hc' hu)
      cases x with
      | own eo es => exact yG.keeps kp hx (hOw loc hloc)
      | fn g caps =>
        obtain ⟨vs, e1, e2, e3⟩ := hx
        exact ⟨vs, e1, by simpa using e2, many _ _ e3⟩
      | tup cs =>
        obtain ⟨vs, e1, e2, e3⟩ := hx
        exact ⟨vs, e1, by simpa using e2, many _ _ e3⟩
      | any => exact bD.any
      | skip => exact fr (x := .skip) (v := v) hx
      | leaf l => exact fr (x := .leaf l) (v := v) hx
      | agg l => exact fr (x := .agg l) (v := v) hx
      | nilptr => exact fr (x := .nilptr) (v := v) hx
      | nilface => exact fr (x := .nilface) (v := v) hx
      | eptr c e o => exact fr (x := .eptr c e o) (v := v) hx
      | ptr b' o =>
        have := fr (x := .ptr b' o) (v := v) hx
        revert this
        simp only [SV.frz, SV.frzF]
        split <;> exact id
      | bsl b' z lo n =>
        have := fr (x := .bsl b' z lo n) (v := v) hx
        revert this
        simp only [SV.frz, SV.frzF]
        split <;> exact id
    refine ⟨F', Ow', ⟨by rw [← h.len]; simp, fun t => ?_, fun b' c' hb' => ?_, ⟨h.low.le, fun k hk => ?_⟩, fun g hg => ?_, fun b' c' hb' => ?_, fun g hz => ?_⟩, ⟨rfl, rfl, rfl, Nat.le_refl _, kp, fun g _ hg => ⟨fun _ => rfl, ?_, ?_⟩⟩⟩
    · have e1 : (s.tmps.map (SV.frz b ls)).getD t .any = (s.tmps.getD t .any).frz b ls := by
        rw [List.getD_eq_getElem?_getD, List.getD_eq_getElem?_getD, List.getElem?_map]
        cases s.tmps[t]? <;> rfl
      show bD P w F' N Ow' bm al' (.tmp t) ((s.tmps.map (SV.frz b ls)).getD t .any) _
      rw [e1]
      exact conv _ _ _ (fun k hk => by simp at hk) (h.slot t)
    · have hb2 : bP ((s.boxes.set b none).map (Option.map (List.map (SV.frz b ls)))) b' = some c' := hb'
      rw [bat] at hb2
      split at hb2
      · simp at hb2
      · rename_i hne
        rw [Option.map_eq_some_iff] at hb2
        obtain ⟨c0, hc0, rfl⟩ := hb2
        obtain ⟨cur', e', k1, k2, k3, k4, k5⟩ := h.box b' c0 hc0
        have hbb : bm b' ≠ bm b := fun hx => by
          rw [hx, g4] at k4
          simp only [Option.some.injEq, Loc.blk.injEq] at k4
          exact hne k4.symm
        refine ⟨cur', e', k1, by simpa using k2, (if_neg hbb).trans k3, by show (if bm b' = bm b then none else Ow (bm b')) = _; rw [if_neg hbb]; exact k4, fun j c u hj hu => ?_⟩
        simp only [List.getElem?_map, Option.map_eq_some_iff] at hj
        obtain ⟨c1, hc1, rfl⟩ := hj
        exact conv _ _ _ (fun k hk => by simp at hk) (k5 j c1 u hc1 hu)
    · obtain ⟨h1, h2, h3⟩ := h.low.know k hk
      exact ⟨Nat.lt_of_lt_of_le h1 (hF _), h2, h3⟩
    · have hgb : g ≠ bm b := fun hx => by
        subst hx
        have := (Array.getElem?_eq_some_iff.1 g1).1
        omega
      exact ⟨(if_neg hgb).trans (h.new g hg).1, by show (if g = bm b then none else Ow g) = none; rw [if_neg hgb]; exact (h.new g hg).2⟩
    · have hb2 : bP ((s.boxes.set b none).map (Option.map (List.map (SV.frz b ls)))) b' = some c' := hb'
      rw [bat] at hb2
      split at hb2
      · simp at hb2
      · rw [Option.map_eq_some_iff] at hb2
        obtain ⟨c0, hc0, _⟩ := hb2
        exact h.bmn b' c0 hc0
    · refine ⟨?_, (h.zow g hz).2⟩
      show (if g = bm b then none else Ow g) = none
      split
      · rfl
      · exact (h.zow g hz).1
    · exact if_neg fun hx => by rw [hx, g4] at hg; simp at hg
    · show (if g = bm b then none else Ow g) = none
      split
      · rfl
      · exact hg
  · exact ⟨F, Ow, h, Far.refl _ _ _⟩
theorem aOw (s : (St m)) (b : Nat) : (s.freeze1 b).boxes.length = s.boxes.length := by
  unfold St.freeze1
  split <;> simp
theorem aH5 : ∀ (bs : List Nat) (s : (St m)), (s.freeze bs).boxes.length = s.boxes.length
  | [], _ => rfl
  | b :: bs, s => (aH5 bs _).trans (aOw s b)
theorem nC.freeze : ∀ (bs : List Nat) {s' : (St m)} {a' : Act} {w' : World}, nC P N nt s' a w F Ow bm a' w' → nC P N nt (s'.freeze bs) a w F Ow bm a' w'
  | [], _, _, _, h => h
  | b :: bs, s', a', w', h => by
    obtain ⟨F1, O1, b1, h1, h2, h3, h4⟩ := h
    obtain ⟨F2, O2, k1, k2⟩ := h1.freeze1 b
    exact nC.freeze bs ⟨F2, O2, b1, k1, h2.trans k2, h3, h4⟩
def aDl (P : Program) (N : Env) (nt L : Nat) (a : Act) (w : World) (F : Fr) (Ow : Own) (bm : Nat → Nat) : (Out m) → Exit → Act → World → Prop
  | .norm s', .normal, a', w' => nC P N nt s' a w F Ow bm a' w' ∧ s'.boxes.length = L
  | .exit id s', .exit id', a', w' => id = id' ∧ nC P N nt s' a w F Ow bm a' w' ∧ s'.boxes.length = L
  | .ret s', .ret, a', w' => nC P N nt s' a w F Ow bm a' w' ∧ s'.boxes.length = L
  | _, _, _, _ => False
theorem aDl.trans {L : Nat} {s1 : (St m)} {a1 : Act} {w1 : World} (h : nC P N nt s1 a w F Ow bm a1 w1) : ∃ F1 O1 b1, Inv P s1 a1.tmps w1 F1 N O1 b1 ∧ ∀ (out : Out m) ex a2 w2, aDl P N nt L a1 w1 F1 O1 b1 out ex a2 w2 → aDl P N nt L a w F Ow bm out ex a2 w2 := by
  obtain ⟨F1, O1, b1, h1, htr⟩ := h.inv
  refine ⟨F1, O1, b1, h1, fun out ex a2 w2 he => ?_⟩
  cases out <;> cases ex <;> simp only [aDl] at he ⊢
  · exact ⟨htr _ _ _ he.1, he.2⟩
  · exact ⟨he.1, htr _ _ _ he.2.1, he.2.2⟩
  · exact ⟨htr _ _ _ he.1, he.2⟩
abbrev aH6 (n : Nat) : ((St m) → Option (Out m)) → ((St m) → Option (St m)) → (St m) → Option (Out m) := fun body again s => rounds body again n s
theorem aN5 (hP : P.follows .mixedOrders = true) {D : (cD m)} (hD : nW P N D) {H : gZ} (hH : H.nt = nt) (n L : Nat) (hL : nt ≤ L) : ∀ (c : Code) (blk : Nat) {β : Type} (k : (Out m) → Option β) (y : β) (s : (St m)) (a : Act) (w : World) (F : Fr) (Ow : Own) (bm : Nat → Nat)
    (Q : Exit → Act → World → Prop), fF P D H (aH6 n) blk c s k = some y → Inv P s a.tmps w F N Ow bm → s.boxes.length = L →
    (∀ out ex a' w', k out = some y → aDl P N nt L a w F Ow bm out ex a' w' → Q ex a' w') → c.wp P Q a w := by
  intro c
  induction c with
  | skip =>
    intro blk β k y s a w F Ow bm Q hc h hl hk
    exact wp_skip (hk _ _ a w hc ⟨nC.refl h, hl⟩)
  | region id ops draw =>
    intro blk β k y s a w F Ow bm Q hc h hl hk
    simp only [fF] at hc
    obtain ⟨hd, hc⟩ := bW hc
    rw [oE, Option.bind_eq_some_iff] at hc
    obtain ⟨s', hs, hks⟩ := hc
    rw [hH] at hs
    refine aPM hP hD h (by omega) (fun hdr => by simpa [hdr] using hd) hs fun a' w' hst => hk _ _ _ _ hks ⟨(hst.tidy _ _).freeze _, by rw [aH5, aQX, aJW _ _ _ _ hs, hl]⟩
  | seq c1 c2 ih1 ih2 =>
    intro blk β k y s a w F Ow bm Q hc h hl hk
    simp only [fF] at hc
    refine wp_seq (ih1 blk _ y s a w F Ow bm _ hc h hl fun out ex a' w' ho he => ?_)
    cases out <;> cases ex <;> simp only [aDl] at he
    · obtain ⟨hst, hl'⟩ := he
      obtain ⟨F1, O1, b1, h1, htr⟩ := aDl.trans (L := L) hst
      exact ih2 blk k y _ a' w' F1 O1 b1 Q ho h1 hl' fun out ex a2 w2 ho2 he2 => hk out ex a2 w2 ho2 (htr _ _ _ _ he2)
    · exact hk _ _ _ _ ho he
    · exact hk _ _ _ _ ho he
  | cond x c1 c2 ih1 ih2 =>
    intro blk β k y s a w F Ow bm Q hc h hl hk
    simp only [fF] at hc
    obtain ⟨b, hb, hc⟩ := wI hc
    have hv := tP ((h.eval (a := a) rfl x).leafOf _ (aDF hb))
    rw [qE] at hc
    cases b
    · exact wp_cond_false hv (ih2 blk k y _ a w F Ow bm Q (by simpa using hc) (h.dropC _ _).1 (by rw [(h.dropC _ _).2, hl]) hk)
    · exact wp_cond_true hv (ih1 blk k y _ a w F Ow bm Q (by simpa using hc) (h.dropC _ _).1 (by rw [(h.dropC _ _).2, hl]) hk)
  | block id c ih =>
    intro blk β k y s a w F Ow bm Q hc h hl hk
    simp only [fF] at hc
    refine wp_block (ih id _ y s a w F Ow bm _ hc h hl fun out ex a' w' ho he => ?_)
    cases out <;> cases ex <;> simp only [aDl] at he
    · exact hk _ _ _ _ ho he
    · rename_i id1 s1 id2
      obtain ⟨rfl, he⟩ := he
      simp only [Exit.inBlock]
      by_cases hid : id1 = id
      · simp only [yY, hid, if_true] at ho ⊢
        exact hk _ _ _ _ ho he
      · simp only [yY, hid, if_false] at ho ⊢
        exact hk _ _ _ _ ho ⟨rfl, he⟩
    · exact hk _ _ _ _ ho he
  | loop c ih =>
    intro blk β k y s a w F Ow bm Q hc h hl hk
    simp only [fF] at hc
    rw [Option.bind_eq_some_iff] at hc
    obtain ⟨out, hr, hko⟩ := hc
    refine wp_loop_rounds n ?_
    have key : ∀ (q : Nat) (s : (St m)) (a1 : Act) (w1 : World) (F1 : Fr) (O1 : Own) (b1 : Nat → Nat), rounds (fun s => fF P D H (aH6 n) blk c s some) (fun s => s.again (H.clear blk) (H.drop blk)) q s = some out → Inv P s a1.tmps w1 F1 N O1 b1 → s.boxes.length = L →
        (∀ ex a2 w2, aDl P N nt L a1 w1 F1 O1 b1 out ex a2 w2 → Q ex a2 w2) → Code.rounds P c Q q a1 w1 := by
      intro q
      induction q with
      | zero => intro s a1 w1 F1 O1 b1 hr _ _ _; simp [rounds] at hr
      | succ q ihm =>
        intro s a1 w1 F1 O1 b1 hr h1 hl1 hq
        simp only [rounds] at hr
        rw [Option.bind_eq_some_iff] at hr
        obtain ⟨s2, hag, hr⟩ := hr
        rw [Option.bind_eq_some_iff] at hr
        obtain ⟨o, hb, hr⟩ := hr
        obtain ⟨h2, hl2⟩ := h1.again hag
        rw [rounds_succ]
        refine ih blk some o s2 a1 w1 F1 O1 b1 _ hb h2 (by rw [hl2, hl1]) fun out' ex a2 w2 ho he => ?_
        simp only [Option.some.injEq] at ho
        subst ho
        cases out' <;> cases ex <;> simp only [aDl] at he
        · obtain ⟨hst, hl3⟩ := he
          obtain ⟨F3, O3, b3, h3, htr⟩ := aDl.trans (L := L) hst
          exact ihm _ a2 w2 F3 O3 b3 hr h3 hl3 fun ex a4 w4 he4 => hq ex a4 w4 (htr _ _ _ _ he4)
        · simp only [Option.some.injEq] at hr
          subst hr
          exact hq _ _ _ he
        · simp only [Option.some.injEq] at hr
          subst hr
          exact hq _ _ _ he
    exact key n s a w F Ow bm hr h hl fun ex a2 w2 he => hk out ex a2 w2 hko he
  | exit id =>
    intro blk β k y s a w F Ow bm Q hc h hl hk
    exact wp_exit (hk _ _ a w hc ⟨rfl, nC.refl h, hl⟩)
  | ret =>
    intro blk β k y s a w F Ow bm Q hc h hl hk
    exact wp_ret (hk _ _ a w hc ⟨nC.refl h, hl⟩)
  | _ =>
    intro blk β k y s a w F Ow bm Q hc
    simp [fF] at hc
end
end Go.Vs
end
section
namespace Go.Vs
variable {m : Bool}
variable {P : Program} {N : Env}
section
variable {s : (St m)} {tmps : Array Value} {w : World} {F : Fr} {Ow : Own} {bm : Nat → Nat}
def aQP (s : (St m)) : ResultVar → Loc
  | .tmp t => .tmp t
  | .cell a _ => match s.tmps.getD a .any with | .ptr b p => .box b p | _ => .blk 0
def aDg (tmps : Array Value) : ResultVar → Sem Value
  | .tmp t => pure (tmps.getD t undef)
  | .cell a t => do loadVar t (← asAddr (tmps.getD a undef))
def aSU (w : World) (g : Nat) : Nat := match w.heap[g]? with | some (.cells cur _ _) => cur.size | _ => 0
def aBK (nt : Nat) (s : (St m)) (w : World) (F : Fr) (bm : Nat → Nat) : Fr := fun g => if (List.range nt).any (fun b => (bP s.boxes b).isSome && bm b == g) = true then aSU w g else F g
theorem aOx {nt g : Nat} (hg : ∀ b, b < nt → (bP s.boxes b).isSome = true → bm b ≠ g) : aBK nt s w F bm g = F g := by
  unfold aBK
  rw [if_neg]
  rw [List.any_eq_true]
  rintro ⟨b, hb, hx⟩
  simp only [Bool.and_eq_true, beq_iff_eq] at hx
  exact hg b (List.mem_range.1 hb) hx.1 hx.2
theorem aHb (h : Inv P s tmps w F N Ow bm) {nt g : Nat} {loc : Loc} (hg : Ow g = some loc) (hl : ∀ b, b < nt → loc ≠ .blk b) : aBK nt s w F bm g = F g := by
  refine aOx fun b hb hal he => ?_
  obtain ⟨cs, hcs⟩ := Option.isSome_iff_exists.1 hal
  obtain ⟨_, _, _, _, _, ho, _⟩ := h.box b cs hcs
  rw [he, hg] at ho
  exact hl b hb (by simpa using ho)
theorem aAP (h : Inv P s tmps w F N Ow bm) (nt : Nat) : hM N w F w (aBK nt s w F bm) := by
  refine .mk' (fun _ _ _ => rfl) (fun g => ?_) fun _ h => h
  by_cases hx : ∃ b, b < nt ∧ (bP s.boxes b).isSome = true ∧ bm b = g
  · obtain ⟨b, _, hal, rfl⟩ := hx
    obtain ⟨cs, hcs⟩ := Option.isSome_iff_exists.1 hal
    obtain ⟨_, _, _, _, h0, _, _⟩ := h.box b cs hcs
    rw [h0]; exact Nat.zero_le _
  · rw [aOx fun b hb hal he => hx ⟨b, hb, hal, he⟩]; exact Nat.le_refl _
theorem aTq (h : Inv P s tmps w F N Ow bm) {nt b : Nat} {cs : List (SV m)} (hb : b < nt) (hcs : bP s.boxes b = some cs) : aBK nt s w F bm (bm b) = cs.length := by
  obtain ⟨cur, e, h1, h2, _⟩ := h.box b cs hcs
  unfold aBK
  rw [if_pos]
  · simp only [aSU, h1, h2]
  · rw [List.any_eq_true]
    exact ⟨b, List.mem_range.2 hb, by simp [hcs]⟩
theorem aMb {α : Type} {z : Nat} : ∀ (n : Nat) (l : List α), n * z ≤ l.length → (qB z n l).length = n ∧ (∀ e ∈ qB z n l, e.length = z) ∧ (qB z n l).flatten = l.take (n * z)
  | 0, l, _ => by simp [qB]
  | n + 1, l, h => by
    have hm : (n + 1) * z = n * z + z := Nat.succ_mul _ _
    obtain ⟨h1, h2, h3⟩ := aMb (z := z) n (l.drop z) (by rw [List.length_drop]; omega)
    refine ⟨by simp [qB, h1], fun e he => ?_, ?_⟩
    · rcases List.mem_cons.1 he with rfl | he
      · rw [List.length_take]; omega
      · exact h2 e he
    · rw [qB, List.flatten_cons, h3, hm, Nat.add_comm, List.take_add]
theorem aUt (h : Inv P s tmps w F N Ow bm) {nt : Nat} {loc : Loc} {x v : (SV m)} {u : Value} (hl : pC x = true → ∀ b, b < nt → loc ≠ .blk b) (hx : bD P w F N Ow bm s.al loc x u) (hs : aSS nt s x = some v) : bD P w (aBK nt s w F bm) N Ow bm s.al loc v u := by
  have hk := aAP h nt
  have old : v = x → bD P w (aBK nt s w F bm) N Ow bm s.al loc v u := fun e => by
    subst e
    exact hx.to hk (fun b hb => ⟨rfl, hb⟩) fun ho g hg => ⟨rfl, aHb h hg (hl ho), hg⟩
  cases x with
  | bsl b z lo n =>
    simp only [aSS] at hs
    split at hs
    · rename_i hb
      obtain ⟨hb, rfl⟩ := hb
      rw [Option.bind_eq_some_iff] at hs
      obtain ⟨cs, hcs, hs⟩ := hs
      have hcs' : bP s.boxes b = some cs := hcs
      split at hs
      · rename_i hc
        obtain ⟨hle, hz⟩ := hc
        rw [Option.map_eq_some_iff] at hs
        obtain ⟨l, hl', rfl⟩ := hs
        obtain ⟨cap, e, hcap, _⟩ := hx.bslOf b z 0 n rfl
        rw [Nat.zero_mul] at e
        subst e
        obtain ⟨cur, e, h1, h2, h3, h4, h5⟩ := h.box b cs hcs'
        have hcl := Array.length_toList (xs := cur)
        have hr : dJ w F N l (cur.toList.take (n * z)) := by
          refine aBq (P := P) (Ow := Ow) (bm := bm) (al := s.al) (cs.take (n * z)) _ l (fun j => .box b j) hl' (by simp; omega) fun j c u hc hu => ?_
          rw [List.getElem?_take] at hc hu
          split at hc
          · rename_i hj
            simp only [hj, if_true] at hu
            exact h5 j c u hc (by simpa using hu)
          · simp at hc
        have hll : l.length = n * z := by have := hr.1; rw [List.length_take] at this; omega
        obtain ⟨c1, c2, c3⟩ := aMb (z := z) n l (by omega)
        rw [List.take_of_length_le (by omega)] at c3
        refine bD.leaf ?_
        have := qW (w := w) (F := aBK nt s w F bm) (N := N) (c := Fl.new m) (es := qB z n l) (A := some ⟨bm b, 0, none⟩) (cap := cap) (z := z) (vals := cur.toList.take (n * z)) (by rw [c1]; exact hcap) c2 (fun hpos => ⟨bm b, 0, rfl, ⟨by rw [c1] at hpos; rw [List.length_take, Nat.min_eq_left (by omega)]; exact Nat.mul_pos hpos (by omega), Fl.Holds.mk_new (h.bmn b cs hcs') (let ⟨cur, e, hg, _⟩ := h.box b cs hcs'; ⟨cur, e, hg⟩)⟩, ?_, ⟨fun hh => by rw [Fl.soft_new] at hh; simp at hh, fun hh => absurd (N.lt _ hh) (Nat.not_lt.2 (h.bmn b cs hcs'))⟩, fun j v hj => ?_⟩) (by rw [c3]; exact hr.keeps hk)
        · rw [c1] at this; exact this
        · rw [aTq h hb hcs', List.length_take]; omega
        · rw [List.getElem?_take] at hj
          split at hj
          · rw [Nat.zero_add, vR h1]; simpa using hj
          · simp at hj
      · simp at hs
    · simp at hs
  | _ => exact old (by simpa [aSS] using hs.symm)
theorem aN6 {tmps : Array Value} {nt : Nat} {r : ResultVar} {v : (SV m)} (h : Inv P s tmps w F N Ow bm) (hr : aLi P nt s r = some v) :
    ∃ u, (aDg tmps r).run P w = .ok u w ∧ bD P w (aBK nt s w F bm) N Ow bm s.al (aQP s r) v u ∧ (pC v = true → ∀ b p, aQP s r = .box b p → b < nt) := by
  cases r with
  | tmp t =>
    simp only [aLi] at hr
    exact ⟨_, rfl, aUt (loc := .tmp t) h (fun _ b _ => by simp) (h.slot t) hr, fun _ b p hb => by simp [aQP] at hb⟩
  | cell c t =>
    simp only [aLi] at hr
    split at hr
    · rename_i b p hp
      rw [Option.bind_eq_some_iff] at hr
      obtain ⟨cs, hb, hr⟩ := hr
      have hb' : bP s.boxes b = some cs := hb
      have hx := h.slot c
      rw [hp] at hx
      have hz : tmps.getD c undef = .pointer (some ⟨bm b, p, none⟩) := by
        have : tmps.getD c undef = .pointer (some ⟨bm b, p, none⟩) ∧ s.al b = true := by simpa only [bD, eP] using hx
        exact this.1
      have hloc : aQP s (.cell c t) = .box b p := by simp only [aQP, hp]
      have hld : ∀ u, (Instr.loadAt t (.pointer (some ⟨bm b, p, none⟩))).run P w = .ok u w → (aDg tmps (.cell c t)).run P w = .ok u w := by
        intro u hu
        have hu' : (loadVar t ⟨bm b, p, none⟩).run P w = .ok u w := by simpa [Instr.loadAt, Instr.sureAddr] using hu
        simp [aDg, hz, asAddr, hu']
      have hI : Inv P s (⟨tmps, []⟩ : Act).tmps w F N Ow bm := h
      split at hr
      · rename_i ha
        rw [Option.bind_eq_some_iff] at hr
        obtain ⟨n, hn, hr⟩ := hr
        split at hr
        · rename_i hle
          rw [Option.map_eq_some_iff] at hr
          obtain ⟨l, hl, rfl⟩ := hr
          obtain ⟨cur, et, hg, hcs, hrr⟩ := aPa (a := ⟨tmps, []⟩) hI hb' hle hl
          exact ⟨_, hld _ (aFW (n := n) (p := p) hg ha hn (by omega)), bD.agg (by simpa using hrr.keeps (aAP h nt)), fun ho => by simp [pC] at ho⟩
        · simp at hr
      · rename_i ha
        split at hr
        · rename_i hbn
          have ha' : rL P t = false := by simpa using ha
          obtain ⟨d, hd⟩ := aNK ha'
          obtain ⟨cur, et, h1, h2, h3, h4, h5⟩ := h.box b cs hb'
          have hp' : p < cs.length := (List.getElem?_eq_some_iff.1 hr).1
          have hu : cur[p]? = some cur[p] := by simp
          refine ⟨cur[p], hld _ (aAf h1 hd ha' hu), by rw [hloc]; exact (h5 p v _ hr hu).to (aAP h nt) (fun b hb => ⟨rfl, hb⟩) fun _ g hg => ⟨rfl, aHb h hg (fun b _ => by simp), hg⟩, fun _ b' p' hb'' => ?_⟩
          rw [hloc] at hb''
          cases hb''
          exact hbn
        · simp at hr
    · simp at hr
theorem aOp {tmps : Array Value} {nt : Nat} (h : Inv P s tmps w F N Ow bm) : ∀ (rs : List ResultVar) (vs : List (SV m)), aGx P nt s rs = some vs → ∃ us, (rs.mapM (aDg tmps)).run P w = .ok us w ∧ us.length = vs.length ∧
    ∀ (j : Nat) (c : (SV m)) (u : Value), vs[j]? = some c → us[j]? = some u → ∃ loc, bD P w (aBK nt s w F bm) N Ow bm s.al loc c u ∧ pC c = false
  | [], vs, hr => by simp [aGx] at hr; subst hr; exact ⟨[], by simp, rfl, by simp⟩
  | r :: rs, vs, hr => by
    simp only [aGx] at hr
    rw [Option.bind_eq_some_iff] at hr
    obtain ⟨v, hv, hr⟩ := hr
    rw [Option.map_eq_some_iff] at hr
    obtain ⟨vs', hvs, rfl⟩ := hr
    obtain ⟨u, hu, hrep, _⟩ := aN6 h hv
    obtain ⟨us, h1, h2, h3⟩ := aOp h rs vs' hvs
    refine ⟨u :: us, by simp [List.mapM_cons, hu, h1], by simp [h2], fun j c x hc hx => ?_⟩
    cases j with
    | zero => simp at hc hx; subst hc hx; exact ⟨_, bD.drop (Ow' := Ow) (loc' := .blk 0) hrep, tR _⟩
    | succ j => exact h3 j c x (by simpa using hc) (by simpa using hx)
theorem aSv (fn : Func) (tmps : Array Value) : results fn tmps = (do let vs ← fn.results.mapM (aDg tmps); pure (if h : vs.size = 1 then vs[0] else .tuple vs)) := by
  unfold results
  congr 1
theorem aQF {tmps : Array Value} {fn : Func} {v : (SV m)} (h : Inv P s tmps w F N Ow bm) (hr : aQg P fn s = some v) (hfl : v.flatT = true) :
    ∃ u loc, (results fn tmps).run P w = .ok u w ∧ bD P w (aBK fn.ntmps s w F bm) N Ow bm s.al loc v u ∧ (pC v = true → (∃ t, loc = .tmp t) ∨ ∃ b p, loc = .box b p ∧ b < fn.ntmps) := by
  unfold aQg at hr
  rw [aSv]
  split at hr
  · rename_i r hrs
    have hrs' : fn.results = #[r] := by rw [← hrs]
    obtain ⟨u, hu, hrep, hown⟩ := aN6 h hr
    refine ⟨u, aQP s r, by rw [hrs']; simp [hu], hrep, fun ho => ?_⟩
    cases r with
    | tmp t => exact .inl ⟨t, rfl⟩
    | cell c t =>
      cases hp : s.tmps.getD c .any with
      | ptr b p => exact .inr ⟨b, p, by simp only [aQP, hp], hown ho b p (by simp only [aQP, hp])⟩
      | _ => simp only [aLi, hp] at hr; simp at hr
  · rename_i hne
    rw [Option.map_eq_some_iff] at hr
    obtain ⟨vs, hvs, rfl⟩ := hr
    obtain ⟨us, h1, h2, h3⟩ := aOp h _ vs hvs
    have hlen : us.length = fn.results.toList.length := by
      have : ∀ (rs : List ResultVar) (vs : List (SV m)), aGx P fn.ntmps s rs = some vs → vs.length = rs.length := by
        intro rs
        induction rs with
        | nil => intro vs h; simp [aGx] at h; subst h; rfl
        | cons r rs ih =>
          intro vs h
          simp only [aGx] at h
          rw [Option.bind_eq_some_iff] at h
          obtain ⟨v, _, h⟩ := h
          rw [Option.map_eq_some_iff] at h
          obtain ⟨vs', hvs, rfl⟩ := h
          simp [ih vs' hvs]
      rw [h2, this _ _ hvs]
    have hn1 : us.length ≠ 1 := by
      intro he
      rw [hlen] at he
      obtain ⟨r, hr⟩ := List.length_eq_one_iff.1 he
      exact hne r hr
    refine ⟨.tuple us.toArray, .blk 0, ?_, ⟨us.toArray, rfl, by simpa using h2, fun j c u hc hu => ?_⟩, fun ho => by simp [pC] at ho⟩
    · rw [Array.mapM_eq_mapM_toList]
      simp [h1, hn1]
    · obtain ⟨loc, hrep, hno⟩ := h3 j c u hc (by simpa using hu)
      cases c with
      | own eo es => simp [pC] at hno
      | fn g caps => have := List.all_eq_true.1 hfl _ (List.mem_of_getElem? hc); simp [SV.flat] at this
      | tup vs => have := List.all_eq_true.1 hfl _ (List.mem_of_getElem? hc); simp [SV.flat] at this
      | _ => simpa only [bD] using hrep
def aM9 (n : Nat) : Loc → Option Loc
  | .tmp t => some (.tmp t)
  | .blk i => some (.blk (n + i))
  | .box i j => some (.box (n + i) j)
def aJO (lr : Loc) (n : Nat) (l : Loc) : Option Loc :=
  if l = lr then some (.tmp 0) else match l with
    | .tmp _ => none
    | .blk b => if n ≤ b then some (.blk (b - n)) else none
    | .box b j => if n ≤ b then some (.box (b - n) j) else none
theorem aKX {n : Nat} {bs : (iC m)} {b : Nat} : bP (List.replicate n none ++ bs) b = if b < n then none else bP bs (b - n) := by
  unfold bP
  rw [List.getD_eq_getElem?_getD]
  split
  · rename_i h
    rw [List.getElem?_append_left (by simpa using h), List.getElem?_replicate]
    simp [h]
  · rename_i h
    rw [List.getElem?_append_right (by simpa using Nat.le_of_not_lt h), List.length_replicate, List.getD_eq_getElem?_getD]
theorem bD.renamed {w : World} {F : Fr} {Ow Ow' : Own} {bm bm' : Nat → Nat} {al al' : Nat → Bool} {loc loc' : Loc} {x : (SV m)} {v : Value} {f : Nat → Nat} (h : bD P w F N Ow bm al loc x v) (hx : x.handed = true)
    (hb : ∀ b, al b = true → bm' (f b) = bm b ∧ al' (f b) = true) (ho : pC x = true → ∀ g, Ow g = some loc → Ow' g = some loc') : bD P w F N Ow' bm' al' loc' (x.ren f) v := by
  refine h.handed hx (fun b hb' => hb b ?_) ho
  cases x with
  | ptr c o =>
    have : b = c := by simpa [SV.boxIds] using hb'
    subst this
    have h' : eP (m := m) w F N bm al (.ptr b o) v := by simpa only [bD] using h
    exact h'.2
  | bsl c z lo n =>
    have : b = c := by simpa [SV.boxIds] using hb'
    subst this
    obtain ⟨_, _, _, h3⟩ := h.bslOf b z lo n rfl
    exact h3
  | fn g caps =>
    obtain ⟨vs, e, hs, hc⟩ := h
    obtain ⟨c, hc1, hc2⟩ := List.mem_flatMap.1 hb'
    obtain ⟨j, hj⟩ := List.getElem?_of_mem hc1
    have hlt : j < vs.size := by rw [hs]; exact (List.getElem?_eq_some_iff.1 hj).1
    have h0 := hc j c _ hj (Array.getElem?_eq_getElem hlt)
    cases c with
    | ptr d o =>
      have : b = d := by simpa using hc2
      subst this
      exact h0.2
    | _ => simp at hc2
  | _ => simp [SV.boxIds] at hb'
theorem Inv.frame {args : List (SV m)} {boxes : List (List (SV m))} {vals : Array Value} (h : Inv P { tmps := args, boxes := boxes.map some } vals w F N Ow bm) (fn : Func) (hh : args.all SV.handed = true) (hf : ∀ c ∈ boxes, ∀ x ∈ c, x.flat = true) :
    Inv P (aBv fn args boxes) (vals ++ Array.replicate (fn.ntmps - vals.size) undef) w F N (fun g => (Ow g).bind (aM9 fn.ntmps)) (fun b => bm (b - fn.ntmps)) := by
  have hlen : args.length = vals.size := h.len
  have hal : ∀ b, (bP (boxes.map some) b).isSome = true → bm (fn.ntmps + b - fn.ntmps) = bm b ∧ (bP (List.replicate fn.ntmps none ++ boxes.map some) (fn.ntmps + b)).isSome = true := by
    intro b hb
    rw [aKX, if_neg (by omega), Nat.add_sub_cancel_left]
    exact ⟨rfl, hb⟩
  refine ⟨by simp [aBv, aS2, hlen], fun t => ?_, fun b cs hb => ?_, h.low, fun g hg => ⟨(h.new g hg).1, by simp [(h.new g hg).2]⟩, fun b cs hb => ?_, fun g hz => ⟨by simp [(h.zow g hz).1], (h.zow g hz).2⟩⟩
  rotate_right
  · have hb' : bP (List.replicate fn.ntmps none ++ boxes.map some) b = some cs := hb
    rw [aKX] at hb'
    split at hb'
    · simp at hb'
    · exact h.bmn _ cs hb'
  · show bD P w F N _ _ (fun b => (bP (List.replicate fn.ntmps none ++ boxes.map some) b).isSome) (.tmp t) ((aS2 fn.ntmps (args.map (SV.ren (fn.ntmps + ·)))).getD t .any) _
    rw [List.getD_eq_getElem?_getD, Array.getD_eq_getD_getElem?]
    unfold aS2
    by_cases ht : t < args.length
    · rw [List.getElem?_append_left (by simpa using ht), List.getElem?_map, List.getElem?_eq_getElem ht, Array.getElem?_append_left (by omega), Array.getElem?_eq_getElem (by omega)]
      simp only [Option.map_some, Option.getD_some]
      have hs := h.slot t
      have e1 : args.getD t .any = args[t] := by rw [List.getD_eq_getElem?_getD, List.getElem?_eq_getElem ht]; rfl
      have e2 : vals.getD t undef = vals[t]'(by omega) := by simp [Array.getD, show t < vals.size by omega]
      simp only at hs
      rw [e1, e2] at hs
      exact hs.renamed (List.all_eq_true.1 hh _ (List.getElem_mem ht)) hal fun _ g hg => by rw [hg]; rfl
    · rw [List.getElem?_append_right (by simpa using Nat.le_of_not_lt ht), Array.getElem?_append_right (by omega), List.getElem?_replicate]
      split
      · rename_i hl
        simp only [List.length_map] at hl
        rw [Array.getElem?_replicate, if_pos (by omega)]
        simp only [Option.getD_some, bD, eP]
      · exact bD.any
  · have hb' : bP (List.replicate fn.ntmps none ++ boxes.map some) b = some cs := hb
    rw [aKX] at hb'
    split at hb'
    · simp at hb'
    · rename_i hlt
      obtain ⟨cur, e, g1, g2, g3, g4, g5⟩ := h.box (b - fn.ntmps) cs hb'
      have hmem : cs ∈ boxes := by
        have hl := aAU hb'
        unfold bP at hb'
        rw [List.getD_eq_getElem?_getD, List.getElem?_map] at hb'
        cases hx : boxes[b - fn.ntmps]? with
        | none => rw [hx] at hb'; simp at hb'
        | some y => rw [hx] at hb'; simp at hb'; subst hb'; exact List.mem_of_getElem? hx
      have hbb : fn.ntmps + (b - fn.ntmps) = b := by omega
      refine ⟨cur, e, g1, g2, g3, by rw [g4]; simp [aM9, hbb], fun j c u hc hu => (g5 j c u hc hu).flat (aEt (hf cs hmem c (List.mem_of_getElem? hc))) fun _ g hg => ?_⟩
      rw [hg]
      simp [aM9, hbb]
theorem Inv.leave {s : (St m)} {tmps : Array Value} {fn : Func} {n : Nat} {r : (SV m) × List (List (SV m))} (h : Inv P s tmps w F N Ow bm) (hr : aGP P fn n s = some r) :
    r.2.length = n ∧ r.1.flatT = true ∧ (∀ cs ∈ r.2, ∀ c ∈ cs, c.flat = true) ∧ ∃ u Ow' F', (results fn tmps).run P w = .ok u w ∧ Inv P { tmps := [r.1], boxes := r.2.map some } #[u] w F' N Ow' (fun i => bm (fn.ntmps + i)) ∧ hM N w F w F' ∧ ∀ g, Ow g = none → F' g = F g ∧ Ow' g = none := by
  have hk := aAP h fn.ntmps
  unfold aGP at hr
  rw [Option.bind_eq_some_iff] at hr
  obtain ⟨v, hv, hr⟩ := hr
  obtain ⟨hfl, hr⟩ := bW hr
  rw [Option.bind_eq_some_iff] at hr
  obtain ⟨cs, hcs, hr⟩ := hr
  obtain ⟨hfc, hr⟩ := bW hr
  simp only [Option.some.injEq] at hr
  subst hr
  obtain ⟨hl, hg⟩ := wP hcs
  simp only [List.length_map, List.length_range] at hl
  have hfc' : ∀ c ∈ cs, ∀ x ∈ c, x.flat = true := fun c hc x hx => List.all_eq_true.1 (List.all_eq_true.1 hfc c hc) x hx
  obtain ⟨u, lr, hrun, hrep, hown⟩ := aQF h hv hfl
  have hlr : ∃ lr', bD P w (aBK fn.ntmps s w F bm) N Ow bm s.al lr' v u ∧ (∀ b, n ≠ 0 → fn.ntmps ≤ b → lr' ≠ .blk b ∧ ∀ j, lr' ≠ .box b j) := by
    cases ho : pC v with
    | true =>
      rcases hown ho with ⟨t, rfl⟩ | ⟨b, p, rfl, hb⟩
      · exact ⟨_, hrep, fun b _ _ => ⟨by simp, by simp⟩⟩
      · refine ⟨_, hrep, fun c _ hc => ⟨by simp, fun j he => ?_⟩⟩
        cases he
        exact absurd hb (Nat.not_lt.2 hc)
    | false => exact ⟨.tmp 0, hrep.flat hfl (fun h => by rw [ho] at h; simp at h), fun b _ _ => ⟨by simp, by simp⟩⟩
  obtain ⟨lr', hrep', hne⟩ := hlr
  have hnone : ∀ g, Ow g = none → aBK fn.ntmps s w F bm g = F g := fun g hg' => aOx fun b hb hal he => by
    obtain ⟨cs0, hcs0⟩ := Option.isSome_iff_exists.1 hal
    obtain ⟨_, _, _, _, _, ho, _⟩ := h.box b cs0 hcs0
    rw [he, hg'] at ho
    simp at ho
  have hbox : ∀ i c, bP (cs.map some) i = some c → i < n ∧ cs[i]? = some c ∧ bP s.boxes (fn.ntmps + i) = some c := by
    intro i c hc'
    have hci : cs[i]? = some c := by
      unfold bP at hc'
      rw [List.getD_eq_getElem?_getD, List.getElem?_map] at hc'
      cases hx : cs[i]? with
      | none => rw [hx] at hc'; simp at hc'
      | some y => rw [hx] at hc'; simpa using hc'
    have hin : i < n := by rw [← hl]; exact (List.getElem?_eq_some_iff.1 hci).1
    obtain ⟨c2, h1, h2⟩ := hg i (fn.ntmps + i) (by rw [List.getElem?_map, List.getElem?_range hin]; rfl)
    rw [hci] at h1
    cases h1
    exact ⟨hin, hci, h2⟩
  refine ⟨hl, hfl, hfc', u, fun g => (Ow g).bind (aJO lr' fn.ntmps), aBK fn.ntmps s w F bm, hrun, ⟨rfl, fun t => ?_, fun i c hc => ?_, h.low.to (aAP h _) (Nat.le_refl _), fun g hg' => ⟨(hnone g (h.new g hg').2).trans (h.new g hg').1, by simp [(h.new g hg').2]⟩, fun i c hc => h.bmn _ c (hbox i c hc).2.2, fun g hz => ⟨by simp [(h.zow g hz).1], (h.zow g hz).2⟩⟩, hk, fun g hg' => ⟨hnone g hg', by simp [hg']⟩⟩
  · cases t with
    | zero =>
      simp only [List.getD_cons_zero]
      exact hrep'.flat hfl fun _ g hg' => by rw [hg']; simp [aJO]
    | succ t => exact bD.any
  · obtain ⟨hin, hci, h2⟩ := hbox i c hc
    obtain ⟨cur, e, g1, g2, g3, g4, g5⟩ := h.box _ _ h2
    obtain ⟨n1, n2⟩ := hne (fn.ntmps + i) (by omega) (by omega)
    refine ⟨cur, e, g1, g2, (aHb h g4 (fun b hb => by simp; omega)).trans g3, ?_, fun j x y hx hy => ((g5 j x y hx hy).to hk (fun b hb => ⟨rfl, hb⟩) fun _ g hg => ⟨rfl, aHb h hg (fun b _ => by simp), hg⟩).flat (aEt (hfc' c (List.mem_of_getElem? hci) x (List.mem_of_getElem? hx))) fun _ g hg' => ?_⟩
    · rw [g4]
      simp [aJO, n1.symm]
    · rw [hg']
      simp [aJO, (n2 j).symm]
theorem aTL {D : (cD m)} {H : gZ} {loop : ((St m) → Option (Out m)) → ((St m) → Option (St m)) → (St m) → Option (Out m)} : ∀ (c : Code) (blk : Nat) {β : Type} (k : (Out m) → Option β) (y : β) (s : (St m)), fF P D H loop blk c s k = some y → ∃ out, k out = some y := by
  intro c
  induction c with
  | skip => intro blk β k y s h; exact ⟨_, h⟩
  | region id ops draw =>
    intro blk β k y s h
    simp only [fF] at h
    obtain ⟨_, h⟩ := bW h
    rw [oE, Option.bind_eq_some_iff] at h
    obtain ⟨s', _, h⟩ := h
    exact ⟨_, h⟩
  | seq c1 c2 ih1 ih2 =>
    intro blk β k y s h
    simp only [fF] at h
    obtain ⟨out, ho⟩ := ih1 blk _ y s h
    cases out with
    | norm s' => exact ih2 blk k y s' ho
    | exit id s' => exact ⟨_, ho⟩
    | ret s' => exact ⟨_, ho⟩
  | cond x c1 c2 ih1 ih2 =>
    intro blk β k y s h
    simp only [fF] at h
    obtain ⟨b, _, h⟩ := wI h
    rw [qE] at h
    split at h
    · exact ih1 blk k y _ h
    · exact ih2 blk k y _ h
  | block id c ih =>
    intro blk β k y s h
    simp only [fF] at h
    obtain ⟨out, ho⟩ := ih id _ y s h
    cases out with
    | norm s' => exact ⟨_, ho⟩
    | exit id' s' =>
      simp only [yY] at ho
      split at ho
      · exact ⟨_, ho⟩
      · exact ⟨_, ho⟩
    | ret s' => exact ⟨_, ho⟩
  | loop c ih =>
    intro blk β k y s h
    simp only [fF] at h
    rw [Option.bind_eq_some_iff] at h
    obtain ⟨out, _, h⟩ := h
    exact ⟨out, h⟩
  | exit id => intro blk β k y s h; exact ⟨_, h⟩
  | ret => intro blk β k y s h; exact ⟨_, h⟩
  | _ => intro blk β k y s h; simp [fF] at h
theorem aTw (hP : P.follows .mixedOrders = true) (hG : P.funcs.all (fun fn => !(fn.name == "runtime.NumGoroutine")) = true) {D : (cD m)} (hD : nW P N D) (H : FuncId → gZ) (n : Nat) : nW P N (aP5 P D H (aH6 n)) := by
  intro f args boxes r hr hh hf
  unfold aP5 at hr
  split at hr
  · rename_i fn hfn
    split at hr
    · rename_i c hc
      have hname : (fn.name == "runtime.NumGoroutine") = false := by
        rw [Array.all_eq_true_iff_forall_mem] at hG
        have := hG fn (Array.mem_of_getElem? hfn)
        simpa using this
      have base : ∀ (w : World) (F : Fr) (Ow : Own) (bm : Nat → Nat) (vals : Array Value), Inv P { tmps := args, boxes := boxes.map some } vals w F N Ow bm →
          Calls P f vals w fun e w' => ∃ v F' Ow', e = .returned v ∧ Inv P { tmps := [r.1], boxes := r.2.map some } #[v] w' F' N Ow' bm ∧ Far N w F Ow w' F' Ow' := by
        intro w F Ow bm vals h
        refine calls_of_wp hfn hc ?_
        have h1 := h.frame fn hh hf
        have hlen : (aBv fn args boxes).boxes.length = fn.ntmps + boxes.length := by simp [aBv]
        refine aN5 (nt := fn.ntmps) hP hD rfl n (fn.ntmps + boxes.length) (by omega) c 0 _ r (aBv fn args boxes) _ w F _ _ _ hr h1 hlen fun out ex a' w' ho he => ?_
        have fin : ∀ s', aGP P fn boxes.length s' = some r → nC P N fn.ntmps s' { tmps := vals ++ Array.replicate (fn.ntmps - vals.size) undef, defers := [] } w F (fun g => (Ow g).bind (aM9 fn.ntmps)) (fun b => bm (b - fn.ntmps)) a' w' →
            a'.defers = [] ∧ ∃ v, (results fn a'.tmps).run P w' = .ok v w' ∧ ∃ v1 F' Ow', Ending.returned v = .returned v1 ∧ Inv P { tmps := [r.1], boxes := r.2.map some } #[v1] w' F' N Ow' bm ∧ Far N w F Ow w' F' Ow' := by
          intro s' hl hst
          obtain ⟨F1, O1, b1, k1, k2, k3, k4⟩ := hst
          obtain ⟨l1, l2, l3, u, O2, F2, l4, l5, l7, l6⟩ := k1.leave hl
          refine ⟨k4, u, l4, u, F2, O2, rfl, ?_, ⟨k2.os, k2.tape, k2.output, k2.size, k2.keeps.trans l7, fun g hg ho => ?_⟩⟩
          · have : (fun i => b1 (fn.ntmps + i)) = bm := by
              funext i
              rw [k3 (fn.ntmps + i) (by omega)]
              show bm (fn.ntmps + i - fn.ntmps) = bm i
              rw [Nat.add_sub_cancel_left]
            rw [this] at l5
            exact l5
          · obtain ⟨q1, q2, q3⟩ := k2.old g hg (by simp [ho])
            exact ⟨q1, (l6 g q3).1.trans q2, (l6 g q3).2⟩
        cases out <;> cases ex <;> simp only [aDl] at he
        · exact fin _ ho he.1
        · simp [aOG] at ho
        · exact fin _ ho he.1
      have shape : r.2.length = boxes.length ∧ r.1.flatT = true ∧ (∀ cs ∈ r.2, ∀ c ∈ cs, c.flat = true) := by
        obtain ⟨out, ho⟩ := aTL c 0 _ r _ hr
        have lv : ∀ s', aGP P fn boxes.length s' = some r → r.2.length = boxes.length ∧ r.1.flatT = true ∧ (∀ cs ∈ r.2, ∀ c ∈ cs, c.flat = true) := by
          intro s' hl
          unfold aGP at hl
          rw [Option.bind_eq_some_iff] at hl
          obtain ⟨v, hv, hl⟩ := hl
          obtain ⟨hfl, hl⟩ := bW hl
          rw [Option.bind_eq_some_iff] at hl
          obtain ⟨cs, hcs, hl⟩ := hl
          obtain ⟨hfc, hl⟩ := bW hl
          simp only [Option.some.injEq] at hl
          subst hl
          exact ⟨by simpa using (wP hcs).1, hfl, fun c hc x hx => List.all_eq_true.1 (List.all_eq_true.1 hfc c hc) x hx⟩
        cases out with
        | norm s => exact lv s ho
        | ret s => exact lv s ho
        | exit id s => simp [aOG] at ho
      exact ⟨shape.1, shape.2.1, shape.2.2, ⟨fn, hfn, hname, by rw [hc]; rfl⟩, base⟩
    · simp at hr
  · simp at hr
end
end Go.Vs
end
section
namespace Go.Vs
variable {m : Bool}
variable {P : Program} {N : Env}
def aOm (P : Program) (N : Env) (T : (aMq m)) : Prop := ∀ (f : FuncId) t, T f = some t → nW P N (fun g args boxes => if g = f then t args boxes else none)
theorem aNv (hP : P.follows .mixedOrders = true) (hG : P.funcs.all (fun fn => !(fn.name == "runtime.NumGoroutine")) = true) {T : (aMq m)} (hT : aOm P N T) (H : FuncId → gZ) : ∀ n, nW P N (aCt P T H n)
  | 0 => by intro f args boxes r hr; simp [aCt] at hr
  | n + 1 => by
    intro f args boxes r hr
    simp only [aCt] at hr
    split at hr
    · rename_i t ht
      exact hT f t ht f args boxes r (by simpa using hr)
    · exact aTw hP hG (aNv hP hG hT H n) H n f args boxes r hr
def Le {α : Type} (x y : Option α) : Prop := ∀ a, x = some a → y = some a
theorem aQT : aOm (m := m) P N (fun _ => none) := by intro f t h; simp at h
end Go.Vs
end
section
set_option linter.unusedVariables false
set_option linter.unusedSimpArgs false
namespace Go.Vs
variable {m : Bool}
variable {P : Program}
def DLe (D D' : (cD m)) : Prop := ∀ f a b r, D f a b = some r → D' f a b = some r
theorem aWf {D D' : (cD m)} {nt : Nat} {mv pu ta : Bool} {o : Oper} {ρ : Operand → (SV m)} {bs : (iC m)} (h : ∀ c g, o.op = .call c → c.callee ≠ .value g) : dG P D nt mv pu ta o ρ bs = dG P D' nt mv pu ta o ρ bs := by
  cases hop : o.op
  case call c =>
    cases hc : c.callee with
    | value g => exact absurd hc (h c g hop)
    | builtin b => simp only [dG, hop, hc]
    | invoke r m => simp only [dG, hop, hc]
  all_goals simp only [dG, hop]
theorem aWV {D D' : (cD m)} {bs : (iC m)} {pu : Bool} {f : FuncId} {args : List (SV m)} {q : (SV m) × Option (iC m)} (h : aCH D bs pu f args = some q) (hD : ∀ g a b r, D g a b = some r → D' g a b = some r) : aCH D' bs pu f args = some q := by
  unfold aCH at h ⊢
  obtain ⟨h1, h2⟩ := bW h
  rw [h1]
  simp only [aB]
  split at h2
  · rename_i hp
    rw [if_pos hp]
    split at h2
    · rename_i hi
      rw [if_pos hi]
      rw [Option.map_eq_some_iff] at h2 ⊢
      obtain ⟨r, hr, he⟩ := h2
      exact ⟨r, hD _ _ _ _ hr, he⟩
    · simp at h2
  · rename_i hp
    rw [if_neg hp]
    rw [Option.bind_eq_some_iff] at h2 ⊢
    obtain ⟨cs, hcs, h3⟩ := h2
    refine ⟨cs, hcs, ?_⟩
    obtain ⟨h4, h5⟩ := bW h3
    rw [h4]
    simp only
    rw [Option.map_eq_some_iff] at h5 ⊢
    obtain ⟨r, hr, he⟩ := h5
    exact ⟨r, hD _ _ _ _ hr, he⟩
theorem aSF {D : (cD m)} {bs : (iC m)} {pu : Bool} {f : FuncId} {args : List (SV m)} {q : (SV m) × Option (iC m)} (h : aCH D bs pu f args = some q) : ∃ a b r, D f a b = some r ∧ ∀ D' : (cD m), D' f a b = some r → aCH D' bs pu f args = some q := by
  unfold aCH at h
  obtain ⟨h1, h2⟩ := bW h
  split at h2
  · rename_i hp
    split at h2
    · rename_i hi
      rw [Option.map_eq_some_iff] at h2
      obtain ⟨r, hr, he⟩ := h2
      refine ⟨args, [], r, hr, fun D' hd => ?_⟩
      unfold aCH
      rw [h1]
      simp only [aB, if_pos hp, if_pos hi, hd, Option.map_some, he]
    · simp at h2
  · rename_i hp
    rw [Option.bind_eq_some_iff] at h2
    obtain ⟨cs, hcs, h3⟩ := h2
    obtain ⟨h4, h5⟩ := bW h3
    rw [Option.map_eq_some_iff] at h5
    obtain ⟨r, hr, he⟩ := h5
    refine ⟨_, cs, r, hr, fun D' hd => ?_⟩
    unfold aCH
    rw [h1]
    simp only [aB, if_neg hp, hcs, Option.bind_some, h4, hd, Option.map_some, he]
theorem aPj {D : (cD m)} {nt : Nat} {mv pu ta : Bool} {o : Oper} {ρ : Operand → (SV m)} {bs : (iC m)} {e : (Eff m)} (h : dG P D nt mv pu ta o ρ bs = some e) :
    (∀ D', dG P D' nt mv pu ta o ρ bs = some e) ∨ ∃ f a b r, D f a b = some r ∧ ∀ D' : (cD m), D' f a b = some r → dG P D' nt mv pu ta o ρ bs = some e := by
  by_cases hv : ∀ c g, o.op = .call c → c.callee ≠ .value g
  · exact .inl fun D' => by rw [← aWf (D := D) hv]; exact h
  · right
    have : ∃ c g, o.op = .call c ∧ c.callee = .value g := by
      refine Classical.byContradiction fun hn => hv fun c g hop hc => hn ⟨c, g, hop, hc⟩
    obtain ⟨c, g, hop, hc⟩ := this
    simp only [dG, hop, hc] at h ⊢
    split at h
    · rename_i f caps hge
      obtain ⟨h1, h2⟩ := bW h
      rw [Option.map_eq_some_iff] at h2
      obtain ⟨q, hq, he⟩ := h2
      obtain ⟨a, b, r, hr, hall⟩ := aSF hq
      refine ⟨f, a, b, r, hr, fun D' hd => ?_⟩
      simp only [h1, aB, hall D' hd, Option.map_some, he]
    · simp at h
section
variable {nt : Nat} {mv pu ta : Nat → Bool} {ops : Array Oper}
theorem aSk {D : (cD m)} {mq p qa : Bool} {o : Oper} {s : (St m)} {e : (Eff m)} (h : oC P D nt mq p qa ops o s = some e) :
    (∀ D', oC P D' nt mq p qa ops o s = some e) ∨ ∃ f a b r, D f a b = some r ∧ ∀ D' : (cD m), D' f a b = some r → oC P D' nt mq p qa ops o s = some e := by
  unfold oC at h ⊢
  split at h
  · exact aPj h
  · rename_i j want hg
    split at h
    · rename_i t ht
      unfold rV at h ⊢
      split at h
      · rename_i b hb
        rw [qE] at h
        split at h
        · rename_i hbw
          simp only [qE, hbw, if_true]
          exact aPj h
        · rename_i hbw
          simp only [qE, hbw]
          exact .inl fun _ => h
      · exact .inl fun _ => h
      · simp at h
    · simp at h
structure aVU (Dn : Nat → (cD m)) (D : (cD m)) : Prop where
  mono : ∀ n m, n ≤ m → DLe (Dn n) (Dn m)
  lim : ∀ f a b r, D f a b = some r → ∃ n, Dn n f a b = some r
theorem aIj {Dn : Nat → (cD m)} {D : (cD m)} (hC : aVU Dn D) : ∀ (l : List Oper) (i : Nat) (s s' : (St m)), mJ P D nt mv pu ta ops l i s some = some s' → ∃ n, ∀ m, n ≤ m → mJ P (Dn m) nt mv pu ta ops l i s some = some s'
  | [], i, s, s', h => ⟨0, fun _ _ => h⟩
  | o :: l, i, s, s', h => by
    simp only [mJ, aBs] at h
    obtain ⟨e, he, hrest⟩ := Option.bind_eq_some_iff.1 h
    obtain ⟨n2, h2⟩ := aIj hC l (i + 1) _ s' hrest
    have h1 : ∃ n, ∀ m, n ≤ m → oC P (Dn m) nt (mv i) (pu i) (ta i) ops o s = some e := by
      rcases aSk he with hx | ⟨f, a, b, r, hr, hx⟩
      · exact ⟨0, fun m _ => hx _⟩
      · obtain ⟨n, hn⟩ := hC.lim f a b r hr
        exact ⟨n, fun m hm => hx _ (hC.mono n m hm _ _ _ _ hn)⟩
    obtain ⟨n1, h1⟩ := h1
    refine ⟨max n1 n2, fun m hm => ?_⟩
    simp only [mJ, aBs]
    rw [h1 m (by omega), Option.bind_some]
    exact h2 m (by omega)
end
theorem jU {D : (cD m)} {H : gZ} {loop : ((St m) → Option (Out m)) → ((St m) → Option (St m)) → (St m) → Option (Out m)} : ∀ (c : Code) (blk : Nat) {β : Type} (k : (Out m) → Option β) (s : (St m)), fF P D H loop blk c s k = (fF P D H loop blk c s some).bind k := by
  intro c
  induction c with
  | skip => intro blk β k s; rfl
  | region id ops draw =>
    intro blk β k s
    simp only [fF]
    cases hb : (!draw || aBC (H.mv id) (H.pure id) (H.take id) ops) with
    | false => rfl
    | true =>
      simp only [aB]
      rw [oE, oE (k := fun s' => some (Out.norm ((s'.tidy (H.after id) (H.afterB id)).freeze (H.fz id)))), Option.bind_assoc]
      rfl
  | seq c1 c2 ih1 ih2 =>
    intro blk β k s
    simp only [fF]
    refine (ih1 blk _ s).trans (Eq.trans ?_ (congrArg (fun x => Option.bind x k) (ih1 blk _ s).symm))
    rw [Option.bind_assoc]
    congr 1
    funext o
    cases o with
    | norm s' => exact ih2 blk k s'
    | exit id s' => rfl
    | ret s' => rfl
  | cond x c1 c2 ih1 ih2 =>
    intro blk β k s
    simp only [fF]
    unfold qQ
    split
    · rename_i b _
      cases b
      · exact ih2 blk k _
      · exact ih1 blk k _
    · rfl
  | block id c ih =>
    intro blk β k s
    simp only [fF]
    refine (ih id _ s).trans (Eq.trans ?_ (congrArg (fun x => Option.bind x k) (ih id _ s).symm))
    rw [Option.bind_assoc]
    congr 1
    funext o
    cases o with
    | norm s' => rfl
    | exit id' s' => simp only [yY, Option.bind_some]; split <;> rfl
    | ret s' => rfl
  | loop c ih =>
    intro blk β k s
    simp only [fF, Option.bind_some]
    cases loop (fun s => fF P D H loop blk c s some) (fun s => s.again (H.clear blk) (H.drop blk)) s <;> rfl
  | exit id => intro blk β k s; rfl
  | ret => intro blk β k s; rfl
  | _ => intro blk β k s; rfl
theorem wQ {body body' : (St m) → Option (Out m)} {again : (St m) → Option (St m)} (hb : ∀ s o, body s = some o → body' s = some o) : ∀ (n m : Nat), n ≤ m → ∀ s o, rounds body again n s = some o → rounds body' again m s = some o
  | 0, _, _, s, o, h => by simp [rounds] at h
  | n + 1, 0, hm, _, _, _ => by omega
  | n + 1, m + 1, hm, s, o, h => by
    simp only [rounds] at h ⊢
    rw [Option.bind_eq_some_iff] at h
    obtain ⟨s2, ha, h⟩ := h
    rw [Option.bind_eq_some_iff] at h
    obtain ⟨o2, h2, h⟩ := h
    rw [ha, Option.bind_some, hb _ _ h2, Option.bind_some]
    cases o2 with
    | norm s' => exact wQ hb n m (by omega) s' o h
    | exit id s' => exact h
    | ret s' => exact h
noncomputable def bN : ((St m) → Option (Out m)) → ((St m) → Option (St m)) → (St m) → Option (Out m) := fun body again s =>
  open Classical in if h : ∃ n o, rounds body again n s = some o then some (Classical.choose (Classical.choose_spec h)) else none
theorem aDQ {body : (St m) → Option (Out m)} {again : (St m) → Option (St m)} {s : (St m)} {o : (Out m)} : bN body again s = some o ↔ ∃ n, rounds body again n s = some o := by
  unfold bN
  constructor
  · intro h
    split at h
    · rename_i hx
      simp only [Option.some.injEq] at h
      subst h
      exact ⟨_, Classical.choose_spec (Classical.choose_spec hx)⟩
    · simp at h
  · rintro ⟨n, hn⟩
    have hx : ∃ n o, rounds body again n s = some o := ⟨n, o, hn⟩
    rw [dif_pos hx]
    have h1 := Classical.choose_spec (Classical.choose_spec hx)
    have h2 := wQ (body := body) (again := again) (fun _ _ h => h) _ (max n (Classical.choose hx)) (Nat.le_max_right _ _) s _ h1
    have h3 := wQ (body := body) (again := again) (fun _ _ h => h) n (max n (Classical.choose hx)) (Nat.le_max_left _ _) s _ hn
    rw [h2] at h3
    exact h3
theorem aLu (body : (St m) → Option (Out m)) (again : (St m) → Option (St m)) (s : (St m)) : bN body again s = (again s).bind fun s => (body s).bind fun | .norm s' => bN body again s' | o => some o := by
  apply Option.ext
  intro o
  rw [aDQ]
  constructor
  · rintro ⟨n, hn⟩
    cases n with
    | zero => simp [rounds] at hn
    | succ n =>
      simp only [rounds] at hn
      rw [Option.bind_eq_some_iff] at hn ⊢
      obtain ⟨s2, ha, h⟩ := hn
      refine ⟨s2, ha, ?_⟩
      rw [Option.bind_eq_some_iff] at h ⊢
      obtain ⟨o2, h2, h⟩ := h
      refine ⟨o2, h2, ?_⟩
      cases o2 with
      | norm s' => exact aDQ.2 ⟨n, h⟩
      | exit id s' => exact h
      | ret s' => exact h
  · intro h
    rw [Option.bind_eq_some_iff] at h
    obtain ⟨s2, ha, h⟩ := h
    rw [Option.bind_eq_some_iff] at h
    obtain ⟨o2, h2, h⟩ := h
    cases o2 with
    | norm s' =>
      obtain ⟨n, hn⟩ := aDQ.1 h
      exact ⟨n + 1, by simp only [rounds]; rw [ha, Option.bind_some, h2, Option.bind_some]; exact hn⟩
    | exit id s' => exact ⟨1, by simp only [rounds]; rw [ha, Option.bind_some, h2, Option.bind_some]; exact h⟩
    | ret s' => exact ⟨1, by simp only [rounds]; rw [ha, Option.bind_some, h2, Option.bind_some]; exact h⟩
theorem aPw {Dn : Nat → (cD m)} {D : (cD m)} (hC : aVU Dn D) {H : gZ} : ∀ (c : Code) (blk : Nat) (s : (St m)) (o : (Out m)), fF P D H bN blk c s some = some o → ∃ n, ∀ m, n ≤ m → fF P (Dn m) H (aH6 m) blk c s some = some o := by
  intro c
  induction c with
  | skip => intro blk s o h; exact ⟨0, fun _ _ => h⟩
  | region id ops draw =>
    intro blk s o h
    simp only [fF] at h ⊢
    obtain ⟨hg, h⟩ := bW h
    rw [oE, Option.bind_eq_some_iff] at h
    obtain ⟨s', hs, ho⟩ := h
    obtain ⟨n, hn⟩ := aIj hC _ _ _ _ hs
    refine ⟨n, fun m hm => ?_⟩
    rw [hg]
    simp only [aB]
    rw [oE, hn m hm, Option.bind_some]
    exact ho
  | seq c1 c2 ih1 ih2 =>
    intro blk s o h
    simp only [fF] at h ⊢
    rw [jU, Option.bind_eq_some_iff] at h
    obtain ⟨o1, h1, h2⟩ := h
    obtain ⟨n1, hn1⟩ := ih1 blk s o1 h1
    cases o1 with
    | norm s' =>
      obtain ⟨n2, hn2⟩ := ih2 blk s' o h2
      refine ⟨max n1 n2, fun m hm => ?_⟩
      rw [jU, hn1 m (by omega), Option.bind_some]
      exact hn2 m (by omega)
    | exit id s' => exact ⟨n1, fun m hm => by rw [jU, hn1 m hm, Option.bind_some]; exact h2⟩
    | ret s' => exact ⟨n1, fun m hm => by rw [jU, hn1 m hm, Option.bind_some]; exact h2⟩
  | cond x c1 c2 ih1 ih2 =>
    intro blk s o h
    simp only [fF] at h ⊢
    obtain ⟨b, hb, h⟩ := wI h
    rw [hb]
    simp only [qQ]
    cases b
    · exact ih2 blk _ o h
    · exact ih1 blk _ o h
  | block id c ih =>
    intro blk s o h
    simp only [fF] at h ⊢
    rw [jU, Option.bind_eq_some_iff] at h
    obtain ⟨o1, h1, h2⟩ := h
    obtain ⟨n1, hn1⟩ := ih id s o1 h1
    exact ⟨n1, fun m hm => by rw [jU, hn1 m hm, Option.bind_some]; exact h2⟩
  | loop c ih =>
    intro blk s o h
    simp only [fF, Option.bind_some] at h ⊢
    rw [Option.bind_eq_some_iff] at h
    obtain ⟨o1, h1, h2⟩ := h
    simp only [Option.some.injEq] at h2
    subst h2
    obtain ⟨n, hn⟩ := aDQ.1 h1
    have key : ∀ (n : Nat) (s : (St m)), rounds (fun s => fF P D H bN blk c s some) (fun s => s.again (H.clear blk) (H.drop blk)) n s = some o1 → ∃ n1, ∀ m, n1 ≤ m → rounds (fun s => fF P (Dn m) H (aH6 m) blk c s some) (fun s => s.again (H.clear blk) (H.drop blk)) n s = some o1 := by
      intro n
      induction n with
      | zero => intro s h; simp [rounds] at h
      | succ n ihn =>
        intro s h
        simp only [rounds] at h ⊢
        rw [Option.bind_eq_some_iff] at h
        obtain ⟨s2, ha, h⟩ := h
        rw [Option.bind_eq_some_iff] at h
        obtain ⟨o2, h2, h⟩ := h
        obtain ⟨n1, hn1⟩ := ih blk s2 o2 h2
        cases o2 with
        | norm s' =>
          obtain ⟨n2, hn2⟩ := ihn s' h
          exact ⟨max n1 n2, fun m hm => by rw [ha, Option.bind_some, hn1 m (by omega), Option.bind_some]; exact hn2 m (by omega)⟩
        | exit id s' => exact ⟨n1, fun m hm => by rw [ha, Option.bind_some, hn1 m hm, Option.bind_some]; exact h⟩
        | ret s' => exact ⟨n1, fun m hm => by rw [ha, Option.bind_some, hn1 m hm, Option.bind_some]; exact h⟩
    obtain ⟨n1, hn1⟩ := key n s hn
    refine ⟨max n n1, fun m hm => ?_⟩
    have h3 := hn1 m (by omega)
    have h4 := wQ (fun _ _ h => h) n m (by omega) s o1 h3
    show ((aH6 m) _ _ s).bind some = some o1
    simp only [aH6]
    rw [h4]
    rfl
  | exit id => intro blk s o h; exact ⟨0, fun _ _ => h⟩
  | ret => intro blk s o h; exact ⟨0, fun _ _ => h⟩
  | _ => intro blk s o h; simp [fF] at h
theorem aQ3 {nt : Nat} {mv pu ta : Nat → Bool} {ops : Array Oper} {D D' : (cD m)} (hD : DLe D D') (l : List Oper) (i : Nat) (s s' : (St m)) (h : mJ P D nt mv pu ta ops l i s some = some s') : mJ P D' nt mv pu ta ops l i s some = some s' := by
  obtain ⟨n, hn⟩ := aIj (Dn := fun _ => D') (D := D) ⟨fun _ _ _ _ _ _ _ h => h, fun f a b r h => ⟨0, hD f a b r h⟩⟩ l i s s' h
  exact hn n (Nat.le_refl _)
theorem aSy {D D' : (cD m)} (hD : DLe D D') {H : gZ} {n n' : Nat} (hn : n ≤ n') : ∀ (c : Code) (blk : Nat) (s : (St m)) (o : (Out m)), fF P D H (aH6 n) blk c s some = some o → fF P D' H (aH6 n') blk c s some = some o := by
  intro c
  induction c with
  | skip => intro blk s o h; exact h
  | region id ops draw =>
    intro blk s o h
    simp only [fF] at h ⊢
    obtain ⟨hg, h⟩ := bW h
    rw [oE, Option.bind_eq_some_iff] at h
    obtain ⟨s', hs, ho⟩ := h
    rw [hg]
    simp only [aB]
    rw [oE, aQ3 hD _ _ _ _ hs, Option.bind_some]
    exact ho
  | seq c1 c2 ih1 ih2 =>
    intro blk s o h
    simp only [fF] at h ⊢
    rw [jU, Option.bind_eq_some_iff] at h
    obtain ⟨o1, h1, h2⟩ := h
    rw [jU, ih1 blk s o1 h1, Option.bind_some]
    cases o1 with
    | norm s' => exact ih2 blk s' o h2
    | exit id s' => exact h2
    | ret s' => exact h2
  | cond x c1 c2 ih1 ih2 =>
    intro blk s o h
    simp only [fF] at h ⊢
    obtain ⟨b, hb, h⟩ := wI h
    rw [hb]
    simp only [qQ]
    cases b
    · exact ih2 blk _ o h
    · exact ih1 blk _ o h
  | block id c ih =>
    intro blk s o h
    simp only [fF] at h ⊢
    rw [jU, Option.bind_eq_some_iff] at h
    obtain ⟨o1, h1, h2⟩ := h
    rw [jU, ih id s o1 h1, Option.bind_some]
    exact h2
  | loop c ih =>
    intro blk s o h
    simp only [fF] at h ⊢
    rw [Option.bind_eq_some_iff] at h
    obtain ⟨o1, h1, h2⟩ := h
    simp only [aH6] at h1 ⊢
    rw [wQ (fun s o h => ih blk s o h) n n' hn s o1 h1, Option.bind_some]
    exact h2
  | exit id => intro blk s o h; exact h
  | ret => intro blk s o h; exact h
  | _ => intro blk s o h; simp [fF] at h
theorem aEd {T : (aMq m)} {H : FuncId → gZ} : ∀ (n m : Nat), n ≤ m → DLe (aCt P T H n) (aCt P T H m)
  | 0, _, _ => by intro f a b r h; simp [aCt] at h
  | n + 1, 0, h => by omega
  | n + 1, m + 1, hm => by
    intro f a b r h
    simp only [aCt] at h ⊢
    cases ht : T f with
    | some t => rw [ht] at h; exact h
    | none =>
      rw [ht] at h
      simp only at h ⊢
      unfold aP5 at h ⊢
      cases hfn : P.funcs[f]? with
      | none => rw [hfn] at h; simp at h
      | some fn =>
        rw [hfn] at h
        simp only at h ⊢
        cases hc : fn.body with
        | none => rw [hc] at h; simp at h
        | some c =>
          rw [hc] at h
          simp only at h ⊢
          rw [jU, Option.bind_eq_some_iff] at h ⊢
          obtain ⟨o, ho, hk⟩ := h
          exact ⟨o, aSy (aEd n m (by omega)) (by omega) c 0 _ o ho, hk⟩
noncomputable def den (P : Program) (T : (aMq m)) (H : FuncId → gZ) : (cD m) := fun f a b =>
  open Classical in if h : ∃ n r, aCt P T H n f a b = some r then some (Classical.choose (Classical.choose_spec h)) else none
theorem aM3 {T : (aMq m)} {H : FuncId → gZ} {f : FuncId} {a : List (SV m)} {b : List (List (SV m))} {r : (SV m) × List (List (SV m))} : den P T H f a b = some r ↔ ∃ n, aCt P T H n f a b = some r := by
  unfold den
  constructor
  · intro h
    split at h
    · rename_i hx
      simp only [Option.some.injEq] at h
      subst h
      exact ⟨_, Classical.choose_spec (Classical.choose_spec hx)⟩
    · simp at h
  · rintro ⟨n, hn⟩
    have hx : ∃ n r, aCt P T H n f a b = some r := ⟨n, r, hn⟩
    rw [dif_pos hx]
    have h1 := Classical.choose_spec (Classical.choose_spec hx)
    have h2 := aEd _ (max n (Classical.choose hx)) (Nat.le_max_right _ _) _ _ _ _ h1
    have h3 := aEd n (max n (Classical.choose hx)) (Nat.le_max_left _ _) _ _ _ _ hn
    rw [h2] at h3
    exact h3
theorem aKL {N : Env} (hP : P.follows .mixedOrders = true) (hG : P.funcs.all (fun fn => !(fn.name == "runtime.NumGoroutine")) = true) {T : (aMq m)} (hT : aOm P N T) (H : FuncId → gZ) : nW P N (den P T H) := by
  intro f a b r h
  obtain ⟨n, hn⟩ := aM3.1 h
  exact aNv hP hG hT H n f a b r hn
theorem aVj {T : (aMq m)} {H : FuncId → gZ} {f : FuncId} {a : List (SV m)} {b : List (List (SV m))} {r : (SV m) × List (List (SV m))} (hT : T f = none) (h : aP5 P (den P T H) H bN f a b = some r) : den P T H f a b = some r := by
  refine aM3.2 ?_
  unfold aP5 at h
  split at h
  · rename_i fn hfn
    split at h
    · rename_i c hc
      rw [jU, Option.bind_eq_some_iff] at h
      obtain ⟨o, ho, hk⟩ := h
      obtain ⟨n, hn⟩ := aPw (Dn := aCt P T H) ⟨fun n m h => aEd n m h, fun f a b r h => aM3.1 h⟩ c 0 _ o ho
      refine ⟨n + 1, ?_⟩
      simp only [aCt, hT]
      unfold aP5
      rw [hfn]
      simp only
      rw [hc]
      simp only
      rw [jU, hn n (Nat.le_refl _)]
      exact hk
    · simp at h
  · simp at h
theorem aRp {T : (aMq m)} {H : FuncId → gZ} {f : FuncId} {t : List (SV m) → List (List (SV m)) → Option ((SV m) × List (List (SV m)))} {a : List (SV m)} {b : List (List (SV m))} {r : (SV m) × List (List (SV m))} (hT : T f = some t) (h : t a b = some r) : den P T H f a b = some r :=
  aM3.2 ⟨1, by simp only [aCt, hT]; exact h⟩
end Go.Vs
end
section
set_option linter.unusedVariables false
set_option linter.unusedSimpArgs false
namespace Go.Vs
variable {m : Bool}
section
variable {β : Type}
def eF (k0 : IntKind) (l : (aF m)) (k : Int → Option β) : Option β := match l with | .int k1 n => if k1 = k0 then k n else none | _ => none
def eR (l : (aF m)) (k : Bool → Option β) : Option β := match l with | .bool b => k b | _ => none
def cR (l : (aF m)) (k : ByteArray → Option β) : Option β := match l with | .str s => k s | _ => none
def slK (l : (aF m)) (k : Fl m → List (List (aF m)) → Option β) : Option β := match l with | .sl c es => k c es | _ => none
def aL0 (P : Program) (t : TypeId) (l : (aF m)) (k : (aF m) → Option β) : Option β :=
  match P.underlying t with
  | some (.int k0) => eF k0 l fun n => k (.int k0 n)
  | some .bool => eR l fun b => k (.bool b)
  | some .string => cR l fun s => k (.str s)
  | some (.slice _) => slK l fun c es => k (.sl c es)
  | _ => none
def atK (e : List (aF m)) (p : Nat) (k : (aF m) → Option β) : Option β := match e[p]? with | some l => k l | none => none
def yJ (P : Program) : List TypeId → List (aF m) → Nat → (List (aF m) → Option β) → Option β
  | [], _, _, k => k []
  | t :: ts, e, p, k => atK e p fun l => aL0 P t l fun l' => yJ P ts e (p + 1) fun ls => k (l' :: ls)
def aR6 (P : Program) : Nat → TypeId → Option (List TypeId)
  | 0, _ => none
  | n + 1, t => match P.underlying t with
    | some (.struct fs) => fs.toList.foldr (fun f r => (aR6 P n f.type).bind fun a => r.map (a ++ ·)) (some [])
    | some (.array _ _) | none => none
    | some _ => some [t]
def jB (e : List (aF m)) (k : List (aF m) → Option β) : Option β := k e
def aO8 (P : Program) (t : TypeId) (e : List (aF m)) (p : Nat) (k : (SV m) → Option β) : Option β :=
  match rL P t with
  | true => (aR6 P 8 t).bind fun ts => (eX P t).bind fun n => if ts.length = n ∧ 0 < n then jB e fun e => yJ P ts e p fun ls => k (.agg ls) else none
  | false => atK e p fun l => aL0 P t l fun l' => k (.leaf l')
def aS (v : (SV m)) (k : (aF m) → Option β) : Option β := match v with | .leaf l => k l | _ => none
def rD (v : (SV m)) (k : Fl m → List (List (aF m)) → Option β) : Option β := match v with | .leaf (.sl c es) => k c es | _ => none
def rK (e : TypeId) (v : (SV m)) (k : List (List (aF m)) → Option β) : Option β := match v with | .own (some e') es => if e' = e then k es else none | _ => none
def gK (v : (SV m)) (k : List (aF m) → Option β) : Option β := match v with | .agg cs => k cs | _ => none
def aIE (v : (SV m)) (k : Option β) : Option β := match v with | .nilface => k | _ => none
def nH (v : (SV m)) (k : List (SV m) → Option β) : Option β := match v with | .tup vs => k vs | _ => none
def aF9 (P : Program) (own : Bool) (t : TypeId) (v : (SV m)) (k : (SV m) → Option β) : Option β :=
  match P.underlying t with
  | some (.slice e) => (match own with
    | true => rK e v fun es => k (.own (some e) es)
    | false => rD v fun c es => k (.leaf (.sl c es)))
  | some (.struct _) => gK v fun cs => (aR6 P 8 t).bind fun ts => aB (cs.length == ts.length) (yJ P ts cs 0 fun ls => k (.agg ls))
  | some (.interface _) => aIE v (k .nilface)
  | some _ => aS v fun l => aL0 P t l fun l' => k (.leaf l')
  | none => none
def dO (l : List (SV m)) (k : (SV m) → List (SV m) → Option β) : Option β := match l with | v :: r => k v r | [] => none
def jP (l : List (SV m)) (k : Option β) : Option β := match l with | [] => k | _ => none
def aGr (P : Program) : List TypeId → List (SV m) → (List (SV m) → Option β) → Option β
  | [], l, k => jP l (k [])
  | t :: ts, l, k => dO l fun v r => aF9 P false t v fun v' => aGr P ts r fun vs => k (v' :: vs)
def aPz (P : Program) (own : Bool) (t : TypeId) (v : (SV m)) (k : (SV m) → Option β) : Option β :=
  match P.underlying t with
  | some (.tuple ts) => nH v fun vs => aGr P ts.toList vs fun vs' => k (.tup vs')
  | _ => aF9 P own t v k
def aPx (c d : (SV m)) (k : (SV m) → Option β) : Option β :=
  match c with
  | .leaf (.int k0 _) => aS d fun l => eF k0 l fun n => k (.leaf (.int k0 n))
  | .leaf (.bool _) => aS d fun l => eR l fun b => k (.leaf (.bool b))
  | .leaf (.str _) => aS d fun l => cR l fun s => k (.leaf (.str s))
  | .leaf (.sl _ _) => rD d fun c es => k (.leaf (.sl c es))
  | .own (some e) _ => rK e d fun es => k (.own (some e) es)
  | _ => none
def aGy : List (SV m) → List (SV m) → (List (SV m) → Option β) → Option β
  | [], l, k => jP l (k [])
  | c :: cs, l, k => dO l fun d r => aPx c d fun d' => aGy cs r fun ds => k (d' :: ds)
def aI5 (cs : List (SV m)) (p : Nat) (k : (SV m) → Option β) : Option β := match cs[p]? with | some c => k c | none => none
def aU4 (P : Program) (t : TypeId) : Bool := match P.underlying t with | some (.int _) | some .bool | some .string | some (.slice _) => true | _ => false
def aPf (P : Program) (t : TypeId) (c : (SV m)) (k : (SV m) → Option β) : Option β := match aU4 P t with | true => aF9 P false t c.drop k | false => k c.drop
def sW (l : List (List (SV m))) (k : List (SV m) → List (List (SV m)) → Option β) : Option β := match l with | v :: r => k v r | [] => none
def oF (l : List (List (SV m))) (k : Option β) : Option β := match l with | [] => k | _ => none
def aVA (row : Bool) (c d : List (SV m)) (k : List (SV m) → Option β) : Option β := match row with | true => k d | false => aGy c d k
def aBw : List Bool → List (List (SV m)) → List (List (SV m)) → (List (List (SV m)) → Option β) → Option β
  | [], _, l, k => oF l (k [])
  | w :: ws, [], l, k => oF l (k [])
  | w :: ws, c :: cs, l, k => sW l fun d r => aVA w c d fun d' => aBw ws cs r fun ds => k (d' :: ds)
end
section
variable {β : Type} {P : Program}
theorem aSM {k0 : IntKind} {l : (aF m)} {k : Int → Option β} {y : β} (h : eF k0 l k = some y) : ∃ n, l = .int k0 n ∧ k n = some y := by
  unfold eF at h
  split at h
  · split at h
    · rename_i hk; subst hk; exact ⟨_, rfl, h⟩
    · simp at h
  · simp at h
theorem aRD {l : (aF m)} {k : Bool → Option β} {y : β} (h : eR l k = some y) : ∃ n, l = .bool n ∧ k n = some y := by
  unfold eR at h; split at h
  · exact ⟨_, rfl, h⟩
  · simp at h
theorem aSH {l : (aF m)} {k : ByteArray → Option β} {y : β} (h : cR l k = some y) : ∃ n, l = .str n ∧ k n = some y := by
  unfold cR at h; split at h
  · exact ⟨_, rfl, h⟩
  · simp at h
theorem aWg {l : (aF m)} {k : Fl m → List (List (aF m)) → Option β} {y : β} (h : slK l k = some y) : ∃ c es, l = .sl c es ∧ k c es = some y := by
  unfold slK at h; split at h
  · exact ⟨_, _, rfl, h⟩
  · simp at h
theorem aNw {t : TypeId} {l : (aF m)} {k : (aF m) → Option β} {y : β} (h : aL0 P t l k = some y) : k l = some y := by
  unfold aL0 at h
  split at h
  · obtain ⟨n, rfl, h'⟩ := aSM h; exact h'
  · obtain ⟨n, rfl, h'⟩ := aRD h; exact h'
  · obtain ⟨n, rfl, h'⟩ := aSH h; exact h'
  · obtain ⟨c, es, rfl, h'⟩ := aWg h; exact h'
  · simp at h
theorem aUW {e : List (aF m)} {p : Nat} {k : (aF m) → Option β} {y : β} (h : atK e p k = some y) : ∃ l, e[p]? = some l ∧ k l = some y := by
  unfold atK at h; split at h
  · exact ⟨_, by assumption, h⟩
  · simp at h
theorem aG2 : ∀ (ts : List TypeId) (e : List (aF m)) (p : Nat) (k : List (aF m) → Option β) (y : β), yJ P ts e p k = some y → (e.drop p).take ts.length = (e.drop p).take ts.length ∧ (ts.length = 0 ∨ p + ts.length ≤ e.length) ∧ k ((e.drop p).take ts.length) = some y
  | [], e, p, k, y, h => ⟨rfl, .inl rfl, by simpa [yJ] using h⟩
  | t :: ts, e, p, k, y, h => by
    simp only [yJ] at h
    obtain ⟨l, hl, h⟩ := aUW h
    have h := aNw h
    obtain ⟨_, h2, h3⟩ := aG2 ts e (p + 1) _ y h
    have hlt := (List.getElem?_eq_some_iff.1 hl).1
    have hd : e.drop p = l :: e.drop (p + 1) := by
      rw [List.drop_eq_getElem_cons hlt]
      congr 1
      exact (List.getElem?_eq_some_iff.1 hl).2
    refine ⟨rfl, .inr ?_, ?_⟩
    · simp only [List.length_cons]
      rcases h2 with h2 | h2 <;> omega
    · rw [hd]
      simpa using h3
theorem aUc {t : TypeId} {e : List (aF m)} {p : Nat} {k : (SV m) → Option β} {y : β} (h : aO8 P t e p k = some y) : ∃ v, aE9 P t e p = some v ∧ k v = some y := by
  unfold aO8 at h
  unfold aE9
  split at h
  · rename_i ha
    rw [if_pos ha]
    rw [Option.bind_eq_some_iff] at h
    obtain ⟨ts, hts, h⟩ := h
    rw [Option.bind_eq_some_iff] at h
    obtain ⟨n, hn, h⟩ := h
    split at h
    · rename_i hl
      obtain ⟨_, h2, h3⟩ := aG2 ts e p _ y h
      rw [hn]
      rw [hl.1] at h2 h3
      have hle : p + n ≤ e.length := by rcases h2 with h2 | h2 <;> omega
      exact ⟨.agg ((e.drop p).take n), by simp [hle], h3⟩
    · simp at h
  · rename_i ha
    rw [if_neg (by simp [ha])]
    obtain ⟨l, hl, h⟩ := aUW h
    have h := aNw h
    exact ⟨.leaf l, by rw [hl]; rfl, h⟩
theorem aD4 {v : (SV m)} {k : (aF m) → Option β} {y : β} (h : aS v k = some y) : ∃ l, v = .leaf l ∧ k l = some y := by
  unfold aS at h; split at h
  · exact ⟨_, rfl, h⟩
  · simp at h
theorem aQQ {v : (SV m)} {k : Fl m → List (List (aF m)) → Option β} {y : β} (h : rD v k = some y) : ∃ c es, v = .leaf (.sl c es) ∧ k c es = some y := by
  unfold rD at h; split at h
  · exact ⟨_, _, rfl, h⟩
  · simp at h
theorem aPu {e : TypeId} {v : (SV m)} {k : List (List (aF m)) → Option β} {y : β} (h : rK e v k = some y) : ∃ es, v = .own (some e) es ∧ k es = some y := by
  unfold rK at h; split at h
  · split at h
    · rename_i he; subst he; exact ⟨_, rfl, h⟩
    · simp at h
  · simp at h
theorem aTY {v : (SV m)} {k : List (aF m) → Option β} {y : β} (h : gK v k = some y) : ∃ cs, v = .agg cs ∧ k cs = some y := by
  unfold gK at h; split at h
  · exact ⟨_, rfl, h⟩
  · simp at h
theorem aTd {v : (SV m)} {k : Option β} {y : β} (h : aIE v k = some y) : v = .nilface ∧ k = some y := by
  unfold aIE at h; split at h
  · exact ⟨rfl, h⟩
  · simp at h
theorem aT0 {v : (SV m)} {k : List (SV m) → Option β} {y : β} (h : nH v k = some y) : ∃ vs, v = .tup vs ∧ k vs = some y := by
  unfold nH at h; split at h
  · exact ⟨_, rfl, h⟩
  · simp at h
theorem aRu {l : List (SV m)} {k : (SV m) → List (SV m) → Option β} {y : β} (h : dO l k = some y) : ∃ v r, l = v :: r ∧ k v r = some y := by
  unfold dO at h; split at h
  · exact ⟨_, _, rfl, h⟩
  · simp at h
theorem aQK {l : List (SV m)} {k : Option β} {y : β} (h : jP l k = some y) : l = [] ∧ k = some y := by
  unfold jP at h; split at h
  · exact ⟨rfl, h⟩
  · simp at h
theorem aK3 {own : Bool} {t : TypeId} {v : (SV m)} {k : (SV m) → Option β} {y : β} (h : aF9 P own t v k = some y) : k v = some y := by
  unfold aF9 at h
  split at h
  · split at h
    · obtain ⟨es, rfl, h'⟩ := aPu h; exact h'
    · obtain ⟨c, es, rfl, h'⟩ := aQQ h; exact h'
  · obtain ⟨cs, rfl, h'⟩ := aTY h
    rw [Option.bind_eq_some_iff] at h'
    obtain ⟨ts, hts, h2⟩ := h'
    obtain ⟨hl, h3⟩ := bW h2
    obtain ⟨_, _, h4⟩ := aG2 ts cs 0 _ y h3
    have hl' : cs.length = ts.length := by simpa using hl
    rw [← hl', List.drop_zero, List.take_length] at h4
    exact h4
  · obtain ⟨rfl, h'⟩ := aTd h; exact h'
  · obtain ⟨l, rfl, h'⟩ := aD4 h
    exact aNw h'
  · simp at h
theorem aPg : ∀ (ts : List TypeId) (l : List (SV m)) (k : List (SV m) → Option β) (y : β), aGr P ts l k = some y → k l = some y
  | [], l, k, y, h => by
    simp only [aGr] at h
    obtain ⟨rfl, h'⟩ := aQK h
    exact h'
  | t :: ts, l, k, y, h => by
    simp only [aGr] at h
    obtain ⟨v, r, rfl, h'⟩ := aRu h
    exact aPg ts r _ y (aK3 h')
theorem aUw {own : Bool} {t : TypeId} {v : (SV m)} {k : (SV m) → Option β} {y : β} (h : aPz P own t v k = some y) : k v = some y := by
  unfold aPz at h
  split at h
  · obtain ⟨vs, rfl, h'⟩ := aT0 h
    exact aPg _ _ _ y h'
  · exact aK3 h
theorem aUh {c d : (SV m)} {k : (SV m) → Option β} {y : β} (h : aPx c d k = some y) : k d = some y := by
  unfold aPx at h
  split at h
  · obtain ⟨l, rfl, h1⟩ := aD4 h; obtain ⟨n, rfl, h2⟩ := aSM h1; exact h2
  · obtain ⟨l, rfl, h1⟩ := aD4 h; obtain ⟨n, rfl, h2⟩ := aRD h1; exact h2
  · obtain ⟨l, rfl, h1⟩ := aD4 h; obtain ⟨n, rfl, h2⟩ := aSH h1; exact h2
  · obtain ⟨c, es, rfl, h1⟩ := aQQ h; exact h1
  · obtain ⟨es, rfl, h1⟩ := aPu h; exact h1
  · simp at h
theorem aO4 : ∀ (cs l : List (SV m)) (k : List (SV m) → Option β) (y : β), aGy cs l k = some y → k l = some y
  | [], l, k, y, h => by
    simp only [aGy] at h
    obtain ⟨rfl, h'⟩ := aQK h
    exact h'
  | c :: cs, l, k, y, h => by
    simp only [aGy] at h
    obtain ⟨v, r, rfl, h'⟩ := aRu h
    exact aO4 cs r _ y (aUh h')
theorem aRl {l : List (List (SV m))} {k : List (List (SV m)) → Option β} {y : β} (h : oF l (k []) = some y) : k l = some y := by
  unfold oF at h
  split at h
  · exact h
  · simp at h
theorem aVx {row : Bool} {c d : List (SV m)} {k : List (SV m) → Option β} {y : β} (h : aVA row c d k = some y) : k d = some y := by
  cases row
  · exact aO4 c d k y h
  · exact h
theorem aO1 : ∀ (ws : List Bool) (cs l : List (List (SV m))) (k : List (List (SV m)) → Option β) (y : β), aBw ws cs l k = some y → k l = some y
  | [], _, l, k, y, h => aRl (by simpa only [aBw] using h)
  | w :: ws, [], l, k, y, h => aRl (by simpa only [aBw] using h)
  | w :: ws, c :: cs, l, k, y, h => by
    simp only [aBw] at h
    unfold sW at h
    split at h
    · rename_i v r
      have h2 := aVx h
      exact aO1 ws cs r (fun ds => k (v :: ds)) y h2
    · simp at h
theorem aVF {cs : List (SV m)} {p : Nat} {k : (SV m) → Option β} {y : β} (h : aI5 cs p k = some y) : ∃ c, cs[p]? = some c ∧ k c = some y := by
  unfold aI5 at h; split at h
  · exact ⟨_, by assumption, h⟩
  · simp at h
theorem aT7 {t : TypeId} {c : (SV m)} {k : (SV m) → Option β} {y : β} (h : aPf P t c k = some y) : k c.drop = some y := by
  unfold aPf at h
  split at h
  · exact aK3 h
  · exact h
end
def aVw (op : BinOp) (k : IntKind) (a b : Int) : Option (Bool × (aF m)) :=
  match op with
  | .quo => some (!(b == 0), .int k (k.wrap (a.tdiv b)))
  | .rem => some (!(b == 0), .int k (a.tmod b))
  | .shl => some (decide (0 ≤ b), .int k (k.wrap (a * 2 ^ min b.toNat k.bits)))
  | .shr => some (decide (0 ≤ b), .int k (a.fdiv (2 ^ min b.toNat k.bits)))
  | op => (aE8 op k a b).map fun l => (true, l)
def aWq (op : BinOp) (x y : ByteArray) : Option (Bool × (aF m)) :=
  match op with
  | .add => some (decide (x.size + y.size ≤ 140737488355328), .str (x ++ y))
  | op => (aPn op x y).map fun l => (true, l)
def aWe (P : Program) (op : BinOp) (t : TypeId) (x y : (SV m)) : Option (Bool × (SV m)) :=
  match x.drop, y.drop with
  | .leaf (.int k a), .leaf (.int k' b) =>
    if aNa op = true then (aVw op k a b).map fun p => (p.1, .leaf p.2)
    else if k = k' then (aVw op k a b).map fun p => (p.1, .leaf p.2) else none
  | .leaf (.str a), .leaf (.str b) => (aWq op a b).map fun p => (p.1, .leaf p.2)
  | _, _ => (aPN P op t x y).map fun v => (true, v)
theorem aUo {op : BinOp} {k : IntKind} {a b : Int} {p : Bool × (aF m)} (h : aVw op k a b = some p) (hp : p.1 = true) : aE8 op k a b = some p.2 := by
  cases op <;> simp only [aVw] at h <;> try (rw [Option.map_eq_some_iff] at h; obtain ⟨l, hl, rfl⟩ := h; exact hl)
  all_goals (simp only [Option.some.injEq] at h; subst h; simp at hp)
  · simp [aE8, hp]
  · simp [aE8, hp]
  · simp only [aE8]; rw [if_neg (by omega)]
  · simp only [aE8]; rw [if_neg (by omega)]
theorem aWl {op : BinOp} {a b : ByteArray} {p : Bool × (aF m)} (h : aWq op a b = some p) (hp : p.1 = true) : aPn op a b = some p.2 := by
  cases op <;> simp only [aWq] at h <;> try (rw [Option.map_eq_some_iff] at h; obtain ⟨l, hl, rfl⟩ := h; exact hl)
  simp only [Option.some.injEq] at h; subst h; simp at hp
  simp [aPn, hp]
theorem aVY {P : Program} {op : BinOp} {t : TypeId} {x y : (SV m)} {p : Bool × (SV m)} (h : aWe P op t x y = some p) (hp : p.1 = true) : aPN P op t x y = some p.2 := by
  unfold aWe at h
  split at h
  · rename_i k a k' b ex ey
    unfold aPN
    rw [ex, ey]
    simp only
    split at h
    · rename_i hs
      rw [if_pos hs]
      rw [Option.map_eq_some_iff] at h ⊢
      obtain ⟨q, hq, rfl⟩ := h
      exact ⟨q.2, aUo hq hp, rfl⟩
    · rename_i hs
      rw [if_neg hs]
      split at h
      · rename_i hk
        rw [if_pos hk]
        rw [Option.map_eq_some_iff] at h ⊢
        obtain ⟨q, hq, rfl⟩ := h
        exact ⟨q.2, aUo hq hp, rfl⟩
      · simp at h
  · rename_i a b ex ey
    unfold aPN
    rw [ex, ey]
    simp only
    rw [Option.map_eq_some_iff] at h ⊢
    obtain ⟨q, hq, rfl⟩ := h
    exact ⟨q.2, aWl hq hp, rfl⟩
  · rw [Option.map_eq_some_iff] at h
    obtain ⟨v, hv, rfl⟩ := h
    exact hv
def aWN : (SV m) → Option (Bool × Nat)
  | .leaf (.int _ n) => some (decide (0 ≤ n), n.toNat)
  | _ => none
def aT9 (ρ : Operand → (SV m)) : Option Operand → Option (Bool × Option Nat)
  | none => some (true, none)
  | some x => (aWN (ρ x)).map fun p => (p.1, some p.2)
theorem aUm {ρ : Operand → (SV m)} {x : Option Operand} {p : Bool × Option Nat} (h : aT9 ρ x = some p) (hp : p.1 = true) : xM ρ x = some p.2 := by
  cases x with
  | none => simp [aT9] at h; subst h; rfl
  | some x =>
    simp only [aT9, Option.map_eq_some_iff] at h
    obtain ⟨q, hq, rfl⟩ := h
    simp only [xM]
    unfold aWN at hq
    split at hq
    · rename_i k n hx
      simp only [Option.some.injEq] at hq
      subst hq
      have : 0 ≤ n := of_decide_eq_true hp
      simp [aSI, hx, this]
    · simp at hq
def aR8 (P : Program) (t : TypeId) (x : (SV m)) (lo hi : Option Nat) : Option (Bool × (SV m)) :=
  match P.underlying t, x.drop with
  | some .string, .leaf (.str b) => some (decide (lo.getD 0 ≤ hi.getD b.size) && decide (hi.getD b.size ≤ b.size), .leaf (.str (b.extract (lo.getD 0) (hi.getD b.size))))
  | some (.slice _), .leaf (.sl c es) =>
    (aDO P t).bind fun e => (eX P e).bind fun z =>
      some (decide (lo.getD 0 ≤ hi.getD es.length) && decide (hi.getD es.length ≤ es.length) && sized z es, .leaf (.sl (c.later lo) ((es.take (hi.getD es.length)).drop (lo.getD 0))))
  | _, _ => none
theorem aUB {P : Program} {t : TypeId} {x : (SV m)} {lo hi : Option Nat} {p : Bool × (SV m)} (h : aR8 P t x lo hi = some p) (hp : p.1 = true) : aFM P t x lo hi = some p.2 := by
  unfold aR8 at h
  split at h
  · rename_i b hu ex
    simp only [Option.some.injEq] at h; subst h
    simp only [Bool.and_eq_true, decide_eq_true_eq] at hp
    unfold aFM
    rw [hu, ex]
    simp only
    rw [if_pos hp]
  · rename_i e c es hu ex
    rw [Option.bind_eq_some_iff] at h
    obtain ⟨e', he, h⟩ := h
    rw [Option.bind_eq_some_iff] at h
    obtain ⟨z, hz, h⟩ := h
    simp only [Option.some.injEq] at h; subst h
    simp only [Bool.and_eq_true, decide_eq_true_eq] at hp
    unfold aFM
    rw [hu, ex]
    simp only [he, hz, Option.bind_some]
    rw [if_pos hp.1, hp.2]
    rfl
  · simp at h
def aI1 (P : Program) (t : TypeId) (x i : (SV m)) : Option (Bool × (SV m)) :=
  match aDO P t, x.drop, i with
  | some e, .bsl b z lo k, .leaf (.int _ n) => (eX P e).bind fun z' => if z' = z ∧ 0 < z then some (decide (0 ≤ n) && decide (n < (k : Int)), .ptr b ((lo + n.toNat) * z)) else none
  | some e, .leaf (.sl c es), .leaf (.int _ n) => (eX P e).bind fun z =>
    some (decide (0 ≤ n) && decide (n < (es.length : Int)) && sized z es, .eptr c (es.getD n.toNat []) 0)
  | _, _, _ => none
theorem aP8 {P : Program} {t : TypeId} {x i : (SV m)} {p : Bool × (SV m)} (h : aI1 P t x i = some p) (hp : p.1 = true) : sN P t x i = some p.2 := by
  unfold aI1 at h
  split at h
  · rename_i e b z lo q kk n he ex
    rw [Option.bind_eq_some_iff] at h
    obtain ⟨z', hz, h⟩ := h
    split at h
    · rename_i hzz
      simp only [Option.some.injEq] at h; subst h
      simp only [Bool.and_eq_true, decide_eq_true_eq] at hp
      unfold sN
      rw [he, ex]
      simp only [hz, Option.bind_some]
      rw [if_pos hp.1, if_pos hp.2, if_pos hzz]
    · simp at h
  · rename_i e c es k n he ex
    rw [Option.bind_eq_some_iff] at h
    obtain ⟨z, hz, h⟩ := h
    simp only [Option.some.injEq] at h; subst h
    simp only [Bool.and_eq_true, decide_eq_true_eq] at hp
    unfold sN
    rw [he, ex]
    simp only [hz, Option.bind_some]
    rw [if_pos hp.1.1, if_pos hp.1.2, hp.2]
    rfl
  · simp at h
def aUa (P : Program) (t : TypeId) (l c : (SV m)) : Option (Bool × ((Nat × Nat) × List (SV m))) :=
  match l, c with
  | .leaf (.int _ a), .leaf (.int _ b) =>
    (aDO P t).bind fun e => (P.info? e).bind fun i => (sL P e).bind fun ze => aB (decide (0 < i.size) && ze.length == i.size) <|
      some (decide (0 ≤ a) && a == b && decide (a.toNat * i.bytes ≤ aO) && decide (a.toNat ≤ aO), ((i.size, a.toNat), ((List.replicate a.toNat ze).flatten.map .leaf)))
  | _, _ => none
theorem aVn {P : Program} {t : TypeId} {x y : (SV m)} {p : Bool × ((Nat × Nat) × List (SV m))} (h : aUa P t x y = some p) (hp : p.1 = true) : aPD P t x y = some p.2 := by
  unfold aUa at h
  split at h
  · rename_i k1 a k2 b
    rw [Option.bind_eq_some_iff] at h
    obtain ⟨e, he, h⟩ := h
    rw [Option.bind_eq_some_iff] at h
    obtain ⟨i, hi, h⟩ := h
    rw [Option.bind_eq_some_iff] at h
    obtain ⟨ze, hze, h⟩ := h
    obtain ⟨hg, h⟩ := bW h
    simp only [Option.some.injEq] at h; subst h
    simp only [Bool.and_eq_true, decide_eq_true_eq, beq_iff_eq] at hp hg
    unfold aPD
    simp only [he, hi, hze, Option.bind_some]
    rw [if_pos ⟨⟨hp.1.1.1, hp.1.1.2⟩, ⟨hg.1, hp.1.2, hp.2⟩, hg.2⟩]
  · simp at h
def aSo (P : Program) (t : TypeId) (x i : (SV m)) : Option (Bool × (SV m)) :=
  match P.underlying t, x, i with
  | some .string, .leaf (.str s), .leaf (.int _ n) => some (decide (0 ≤ n) && decide (n < (s.size : Int)), .leaf (.int .u8 (s.data.toList.getD n.toNat 0).toNat))
  | _, _, _ => none
theorem aUE {P : Program} {t : TypeId} {x i : (SV m)} {p : Bool × (SV m)} (h : aSo P t x i = some p) (hp : p.1 = true) : aIN P t x i = some p.2 := by
  unfold aSo at h
  split at h
  · rename_i s k n hu
    simp only [Option.some.injEq] at h; subst h
    simp only [Bool.and_eq_true, decide_eq_true_eq] at hp
    unfold aIN
    rw [hu]
    simp only
    rw [if_pos hp.1, if_pos hp.2]
  · simp at h
def aQn (P : Program) (argTypes : Array TypeId) (x y : (SV m)) : Option (Bool × (SV m)) :=
  match argTypes.toList, x with
  | [t, u], .own eo es =>
    (aDO P t).bind fun e => (P.info? e).bind fun i => aB (eo.getD e == e && decide (0 < i.size) && decide (0 < i.bytes) && aBt P e) <|
      match P.underlying u, y.drop with
      | some (.slice _), .leaf (.sl _ fs) => if t = u then some (decide ((es.length + fs.length) * i.bytes ≤ aO) && sized i.size fs, .own (some e) (es ++ fs)) else none
      | some .string, .leaf (.str s) => aB (aG0 P e) (some (decide (es.length + s.size ≤ aO), .own (some e) (es ++ s.data.toList.map fun b => [.int .u8 b.toNat])))
      | _, _ => none
  | _, _ => none
theorem aTS {P : Program} {ts : Array TypeId} {x y : (SV m)} {p : Bool × (SV m)} (h : aQn P ts x y = some p) (hp : p.1 = true) : aG5 P ts x y = some p.2 := by
  unfold aQn at h
  split at h
  · rename_i t u eo es hts
    rw [Option.bind_eq_some_iff] at h
    obtain ⟨e, he, h⟩ := h
    rw [Option.bind_eq_some_iff] at h
    obtain ⟨i, hi, h⟩ := h
    obtain ⟨hg, h⟩ := bW h
    unfold aG5
    rw [hts]
    simp only [he, hi, Option.bind_some, hg, aB]
    split at h
    · rename_i e2 c fs hu hy
      rw [hu, hy]
      simp only
      split at h
      · rename_i htu
        simp only [Option.some.injEq] at h; subst h
        simp only [Bool.and_eq_true, decide_eq_true_eq] at hp
        rw [if_pos ⟨htu, hp.1⟩, hp.2]
      · simp at h
    · rename_i s hu hy
      rw [hu, hy]
      simp only
      obtain ⟨hz, h⟩ := bW h
      simp only [Option.some.injEq] at h; subst h
      have hp' := of_decide_eq_true hp
      rw [if_pos hp', hz]
    · simp at h
  · simp at h
def aSq : List (aF m) → Bool | [.int .u8 _] => true | _ => false
def aOq : List (aF m) → UInt8 | [.int .u8 n] => UInt8.ofNat n.toNat | _ => 0
def aUk (P : Program) (src dst : TypeId) (x : (SV m)) : Option (Bool × (SV m)) :=
  match P.underlying src, P.underlying dst, x.drop with
  | some (.slice e), some .string, .leaf (.sl _ es) =>
    match P.underlying e with
    | some (.int .u8) => some (es.all aSq, .leaf (.str ⟨(es.map aOq).toArray⟩))
    | _ => none
  | _, _, _ => (aLZ P src dst x).map fun v => (true, v)
theorem aPC : ∀ (es : List (List (aF m))), es.all aSq = true → pA es = some (es.map aOq)
  | [], _ => rfl
  | e :: es, h => by
    simp only [List.all_cons, Bool.and_eq_true] at h
    have ih := aPC es h.2
    have h1 := h.1
    unfold aSq at h1
    split at h1
    · simp [pA, ih, aOq]
    · simp at h1
theorem aVJ {P : Program} {src dst : TypeId} {x : (SV m)} {p : Bool × (SV m)} (h : aUk P src dst x = some p) (hp : p.1 = true) : aLZ P src dst x = some p.2 := by
  unfold aUk at h
  split at h
  · rename_i e c es hs hd ex
    unfold aLZ
    rw [hs, hd, ex]
    simp only
    split at h
    · rename_i he
      simp only [Option.some.injEq] at h; subst h
      rw [he]
      simp [aPC es hp]
    · simp at h
  · rw [Option.map_eq_some_iff] at h
    obtain ⟨v, hv, rfl⟩ := h
    exact hv
end Go.Vs
end
section
namespace Go.Vs
variable {m : Bool}
section
variable {β : Type}
def aSm (P : Program) (own : Bool) (dst : Option Tmp) (t : TypeId) (v : (SV m)) (k : (SV m) → Option β) : Option β := match dst with | none => k v | some _ => aPz P own t v k
def aV9 (args : List (SV m)) : List Nat := args.flatMap fun | .bsl b _ _ _ => [b] | _ => []
def aLn (P : Program) (D : (cD m)) (s : (St m)) (own pureHint : Bool) (f : FuncId) (args : List (SV m)) (dst : Option Tmp) (t : TypeId) (k : (St m) → Option β) : Option β :=
  aB (args.all SV.handed) <|
    match pureHint with
    | true => aB (nF args).isEmpty ((D f args []).bind fun r => aSm P own dst t r.1 fun v => k (s.put dst v))
    | false => (xG s.boxes (nF args)).bind fun cs => aB (cs.all (·.all SV.flat)) <|
        (D f (args.map (SV.ren (iM (nF args)))) cs).bind fun r => aBw ((nF args).map (aV9 args).contains) cs r.2 fun bs => aSm P own dst t r.1 fun v => k (({ s with boxes := jI s.boxes (nF args) bs } : (St m)).put dst v)
def refine (s : (St m)) (x : Operand) (b : Bool) : (St m) := match x with | .tmp t => s.put (some t) (.leaf (.bool b)) | _ => s
def aQa (s : (St m)) (t : Tmp) (want : Bool) (x y : (St m) → Option β) : Option β :=
  match s.tmps.getD t .any with
  | .leaf (.bool b) => aA (b == want) (x (refine s (.tmp t) want)) (y (refine s (.tmp t) !want))
  | .skip => y s
  | _ => none
def mC (cs : List (SV m)) (p : Nat) (vs : List (SV m)) : List (SV m) := cs.take p ++ vs ++ cs.drop (p + vs.length)
def gS (P : Program) (D : (cD m)) (nt : Nat) (mv pu ta : Bool) (o : Oper) (s : (St m)) (k : (St m) → Option β) : Option β :=
  match o.op with
  | .pick c a b => qQ (s.eval c) fun t => aA t (k ((refine s c true).put o.dst ((refine s c true).eval a).drop)) (k ((refine s c false).put o.dst ((refine s c false).eval b).drop))
  | .load t x => (match s.eval x with
    | .eptr _ e p => aO8 P t e p fun v => k (s.put o.dst v)
    | .ptr b p => (match rL P t, mv with
      | false, false => (s.box b).bind fun cs => aI5 cs p fun c => aPf P t c fun v => k (s.put o.dst v)
      | _, _ => gR P D nt mv pu ta o s k)
    | _ => gR P D nt mv pu ta o s k)
  | .store t x y => (match s.eval x with
    | .ptr b p => (s.box b).bind fun cs => (eX P t).bind fun n => aB (s.eval y).data (aB (n == (s.eval y).cells.length && decide (p + n ≤ cs.length)) (k (((s.take y).setBox b (some (mC cs p (s.eval y).cells))).put o.dst .skip)))
    | _ => gR P D nt mv pu ta o s k)
  | .makeSlice t l c => (match o.dst with
    | some d => (match s.box d with
      | none => aB (decide (d < nt)) ((aUa P t (s.eval l) (s.eval c)).bind fun p => aB p.1 (k ((s.setBox d (some p.2.2)).put o.dst (.bsl d p.2.1.1 0 p.2.1.2))))
      | some _ => none)
    | none => none)
  | .binOp op t x y _ => (aWe P op t (s.eval x) (s.eval y)).bind fun p => aB p.1 (k (s.put o.dst p.2))
  | .convert src dst x => (aUk P src dst (s.eval x)).bind fun p => aB p.1 (k (s.put o.dst p.2))
  | .slice t x lo hi none => (aT9 s.eval lo).bind fun l => (aT9 s.eval hi).bind fun h => (aR8 P t (s.eval x) l.2 h.2).bind fun p => aB (l.1 && h.1 && p.1) (k (s.put o.dst p.2))
  | .indexAddr t x i => (aI1 P t (s.eval x) (s.eval i)).bind fun p => aB p.1 (k (s.put o.dst p.2))
  | .index t x i => (aSo P t (s.eval x) (s.eval i)).bind fun p => aB p.1 (k (s.put o.dst p.2))
  | .call c => (match c.callee with
    | .builtin .append => (match c.args.toList with
      | [x, y] => (aQn P c.argTypes (s.eval x) (s.eval y)).bind fun p => aB p.1 (k ((s.take x).put o.dst p.2))
      | _ => none)
    | .value g => (match s.eval g with
      | .fn f caps => aB (decide (cW c.args.toList).Nodup) (aLn P D (s.takes (aBQ ta c.args.toList)) mv pu f (c.args.toList.map (wA ta s.eval) ++ caps) o.dst o.type k)
      | _ => none)
    | _ => gR P D nt mv pu ta o s k)
  | _ => gR P D nt mv pu ta o s k
def aLP (P : Program) (D : (cD m)) (nt : Nat) (mv pu ta : Bool) (ops : Array Oper) (o : Oper) (s : (St m)) (k : (St m) → Option β) : Option β :=
  match o.guard with
  | none => gS P D nt mv pu ta o s k
  | some (j, want) => match (ops[j]?).bind (·.dst) with
    | some t => aQa s t want (fun s => gS P D nt mv pu ta o s k) (fun s => k (s.put o.dst .skip))
    | none => none
def aCA (P : Program) (D : (cD m)) (nt : Nat) (mv pu ta : Nat → Bool) (ops : Array Oper) : List Oper → Nat → (St m) → ((St m) → Option β) → Option β
  | [], _, s, k => k s
  | o :: r, i, s, k => aLP P D nt (mv i) (pu i) (ta i) ops o s fun s' => aCA P D nt mv pu ta ops r (i + 1) s' k
end
section
variable {β : Type}
def aUz (v : (SV m)) (k : (SV m) → Option β) : Option β :=
  match v with
  | .any => k .any
  | .skip => k .skip
  | .leaf l => k (.leaf l)
  | .own e es => k (.own e es)
  | .agg cs => k (.agg cs)
  | .ptr b o => k (.ptr b o)
  | .eptr c e o => k (.eptr c e o)
  | .bsl b z lo n => k (.bsl b z lo n)
  | .nilptr => k .nilptr
  | .nilface => k .nilface
  | .fn f caps => k (.fn f caps)
  | .tup vs => k (.tup vs)
theorem aTD (v : (SV m)) (k : (SV m) → Option β) : aUz v k = k v := by cases v <;> rfl
def aQo : List (SV m) → (List (SV m) → Option β) → Option β
  | [], k => k []
  | v :: l, k => aUz v fun v' => aQo l fun l' => k (v' :: l')
theorem aPr : ∀ (l : List (SV m)) (k : List (SV m) → Option β), aQo l k = k l
  | [], _ => rfl
  | v :: l, k => by simp only [aQo, aTD, aPr l]
def aK5 : List (Option (List (SV m))) → (List (Option (List (SV m))) → Option β) → Option β
  | [], k => k []
  | none :: l, k => aK5 l fun l' => k (none :: l')
  | some c :: l, k => aK5 l fun l' => k (some c :: l')
theorem aLk : ∀ (l : List (Option (List (SV m)))) (k : List (Option (List (SV m))) → Option β), aK5 l k = k l
  | [], _ => rfl
  | none :: l, k => by simp only [aK5, aLk l]
  | some c :: l, k => by simp only [aK5, aLk l]
def aCv (s : (St m)) (k : (St m) → Option β) : Option β := aQo s.tmps fun t => aK5 s.boxes fun b => k ⟨t, b⟩
theorem zN (s : (St m)) (k : (St m) → Option β) : aCv s k = k s := by unfold aCv; rw [aPr, aLk]
end
def eG {β : Type} (P : Program) (D : (cD m)) (H : gZ) (loop : ((St m) → Option (Out m)) → ((St m) → Option (St m)) → (St m) → Option (Out m)) : Nat → Code → (St m) → ((Out m) → Option β) → Option β
  | _, .skip, s, k => k (.norm s)
  | _, .region id ops draw, s, k => aB (!draw || aBC (H.mv id) (H.pure id) (H.take id) ops) (aCA P D H.nt (H.mv id) (H.pure id) (H.take id) ops ops.toList 0 s fun s' => aCv ((s'.tidy (H.after id) (H.afterB id)).freeze (H.fz id)) fun s' => k (.norm s'))
  | blk, .seq a b, s, k => eG P D H loop blk a s (aNh (fun s' => eG P D H loop blk b s' k) k)
  | blk, .cond c a b, s, k => qQ (s.eval c) fun t => aA t (aCv (s.dropC H.condA c) fun s => eG P D H loop blk a s k) (aCv (s.dropC H.condB c) fun s => eG P D H loop blk b s k)
  | _, .block id a, s, k => eG P D H loop id a s (yY id k)
  | blk, .loop a, s, k => (loop (fun s => eG P D H loop blk a s some) (fun s => s.again (H.clear blk) (H.drop blk)) s).bind k
  | _, .exit id, s, k => k (.exit id s)
  | _, .ret, s, k => k (.ret s)
  | _, _, _, _ => none
def aU (P : Program) (D : (cD m)) (H : FuncId → gZ) (loop : ((St m) → Option (Out m)) → ((St m) → Option (St m)) → (St m) → Option (Out m)) : (cD m) := fun f args boxes =>
  match P.funcs[f]? with
  | some fn => match fn.body with
    | some c => eG P D ((H f).fit fn.ntmps) loop 0 c (aBv fn args boxes) (aOG P fn boxes.length)
    | none => none
  | none => none
section
variable {P : Program} {D : (cD m)} {β : Type}
theorem zK {nt : Nat} {mv pu ta : Bool} {o : Oper} {s : (St m)} {k1 k2 : (St m) → Option β} {y : β} (hk : ∀ s, k2 s = some y → k1 s = some y) (h : gR P D nt mv pu ta o s k2 = some y) : gR P D nt mv pu ta o s k1 = some y := by
  rw [aGO, Option.bind_eq_some_iff] at h ⊢
  obtain ⟨e, he, h⟩ := h
  exact ⟨e, he, hk _ h⟩
theorem aS4 {own : Bool} {dst : Option Tmp} {t : TypeId} {v : (SV m)} {k : (SV m) → Option β} {y : β} (h : aSm P own dst t v k = some y) : k v = some y := by
  unfold aSm at h
  split at h
  · exact h
  · exact aUw h
theorem aTI {s : (St m)} {own pu : Bool} {f : FuncId} {args : List (SV m)} {dst : Option Tmp} {t : TypeId} {k1 k2 : (St m) → Option β} {y : β} (hk : ∀ s, k2 s = some y → k1 s = some y) (h : aLn P D s own pu f args dst t k2 = some y) : aSP D s pu f args dst k1 = some y := by
  unfold aLn at h
  obtain ⟨h1, h⟩ := bW h
  unfold aSP
  rw [h1]
  simp only [aB]
  split at h
  · obtain ⟨h2, h⟩ := bW h
    rw [if_pos rfl, if_pos (by simpa using h2)]
    rw [Option.bind_eq_some_iff] at h ⊢
    obtain ⟨r, hr, h⟩ := h
    exact ⟨r, hr, hk _ (aS4 h)⟩
  · rw [if_neg (by simp)]
    rw [Option.bind_eq_some_iff] at h ⊢
    obtain ⟨cs, hcs, h⟩ := h
    obtain ⟨h2, h⟩ := bW h
    refine ⟨cs, hcs, ?_⟩
    rw [h2]
    simp only
    rw [Option.bind_eq_some_iff] at h ⊢
    obtain ⟨r, hr, h⟩ := h
    refine ⟨r, hr, hk _ ?_⟩
    have h3 := aO1 _ cs r.2 _ y h
    exact aS4 h3
theorem gk {x : Option (Bool × (SV m))} {x' : Option (SV m)} {k1 k2 : (SV m) → Option β} {y : β} (hx : ∀ p, x = some p → p.1 = true → x' = some p.2) (hk : ∀ v, k2 v = some y → k1 v = some y) (h : x.bind (fun p => aB p.1 (k2 p.2)) = some y) : x'.bind k1 = some y := by
  rw [Option.bind_eq_some_iff] at h
  obtain ⟨p, hp, h⟩ := h
  obtain ⟨h1, h2⟩ := bW h
  rw [hx p hp h1, Option.bind_some]
  exact hk _ h2
theorem aK4 {s : (St m)} {x : Operand} {b : Bool} (h : s.eval x = .leaf (.bool b)) : refine s x b = s := by
  cases x with
  | tmp t =>
    simp only [refine, St.put]
    have h' : s.tmps.getD t .any = .leaf (.bool b) := h
    have hl : s.tmps[t]? = some (.leaf (.bool b)) := by
      rw [List.getD_eq_getElem?_getD] at h'
      cases hx : s.tmps[t]? with
      | none => rw [hx] at h'; simp at h'
      | some v => rw [hx] at h'; simpa using h'
    have : s.tmps.set t (.leaf (.bool b)) = s.tmps := by
      apply List.ext_getElem?
      intro i
      by_cases hi : t = i
      · subst hi; rw [List.getElem?_set_self (List.getElem?_eq_some_iff.1 hl).1, hl]
      · rw [List.getElem?_set_ne hi]
    rw [this]
  | _ => rfl
theorem aTK {s : (St m)} {t : Tmp} {want : Bool} {x y : (St m) → Option β} : aQa s t want x y = rV (s.tmps.getD t .any) want (x s) (y s) := by
  unfold aQa rV
  have hr : ∀ b, s.tmps.getD t .any = .leaf (.bool b) → refine s (.tmp t) b = s := fun b hb => aK4 (x := .tmp t) hb
  generalize s.tmps.getD t .any = v at hr
  cases v with
  | leaf l =>
    cases l with
    | bool b =>
      simp only [qE]
      by_cases hw : b = want
      · subst hw; simp [hr b rfl]
      · have : b = !want := by cases b <;> cases want <;> simp_all
        subst this
        simp [hr _ rfl]
    | _ => rfl
  | _ => rfl
theorem aO5 {nt : Nat} {mv pu ta : Bool} {o : Oper} {s : (St m)} {k1 k2 : (St m) → Option β} {y : β} (hk : ∀ s, k2 s = some y → k1 s = some y) (h : gS P D nt mv pu ta o s k2 = some y) : gR P D nt mv pu ta o s k1 = some y := by
  cases hop : o.op
  case load t x =>
    simp only [gS, hop] at h
    split at h
    · rename_i c e p hx
      obtain ⟨v, hv, h⟩ := aUc h
      simp only [gR, hop, hx, hv, Option.bind_some]
      exact hk _ h
    · rename_i b p hx
      split at h
      · rename_i ha
        rw [Option.bind_eq_some_iff] at h
        obtain ⟨cs, hcs, h⟩ := h
        obtain ⟨c, hc, h⟩ := aVF h
        have h := aT7 h
        simp only [gR, hop, hx, hcs, Option.bind_some]
        rw [if_neg (by simp [ha]), hc]
        exact hk _ h
      · exact zK hk h
    · exact zK hk h
  case store t x y =>
    simp only [gS, hop] at h
    split at h
    · rename_i b p hx
      rw [Option.bind_eq_some_iff] at h
      obtain ⟨cs, hcs, h⟩ := h
      rw [Option.bind_eq_some_iff] at h
      obtain ⟨n, hn, h⟩ := h
      obtain ⟨h1, h⟩ := bW h
      obtain ⟨h2, h⟩ := bW h
      simp only [Bool.and_eq_true, beq_iff_eq, decide_eq_true_eq] at h2
      simp only [gR, hop, hx, hcs, hn, Option.bind_some, h1, aB]
      rw [if_pos h2]
      have := hk _ h
      rw [mC, ← h2.1] at this
      exact this
    · exact zK hk h
  case makeSlice t l c =>
    simp only [gS, hop] at h
    simp only [gR, hop]
    split at h
    · rename_i d hd
      rw [hd]
      simp only
      split at h
      · rename_i hb
        rw [hb]
        simp only
        obtain ⟨h1, h⟩ := bW h
        rw [h1]
        simp only [aB]
        rw [Option.bind_eq_some_iff] at h ⊢
        obtain ⟨p, hp, h⟩ := h
        obtain ⟨h2, h⟩ := bW h
        refine ⟨p.2, aVn hp h2, ?_⟩
        rw [hd] at h
        exact hk _ h
      · simp at h
    · simp at h
  case pick c x z =>
    simp only [gS, hop] at h
    simp only [gR, hop]
    obtain ⟨b, hb, h⟩ := wI h
    rw [hb]
    simp only [qQ]
    cases b
    · simp only [aA, aK4 hb] at h ⊢; exact hk _ h
    · simp only [aA, aK4 hb] at h ⊢; exact hk _ h
  case binOp op t x z u =>
    simp only [gS, hop] at h
    simp only [gR, hop]
    exact gk (fun p hp h1 => aVY hp h1) (fun v => hk _) h
  case convert src dst x =>
    simp only [gS, hop] at h
    simp only [gR, hop]
    exact gk (fun p hp h1 => aVJ hp h1) (fun v => hk _) h
  case slice t x lo hi mx =>
    cases mx with
    | some m => simp only [gS, hop] at h; exact zK hk h
    | none =>
      simp only [gS, hop] at h
      simp only [gR, hop]
      rw [Option.bind_eq_some_iff] at h
      obtain ⟨l, hl, h⟩ := h
      rw [Option.bind_eq_some_iff] at h
      obtain ⟨r, hr, h⟩ := h
      rw [Option.bind_eq_some_iff] at h
      obtain ⟨p, hp, h⟩ := h
      obtain ⟨h1, h2⟩ := bW h
      simp only [Bool.and_eq_true] at h1
      rw [aUm hl h1.1.1, Option.bind_some, aUm hr h1.1.2, Option.bind_some, aUB hp h1.2, Option.bind_some]
      exact hk _ h2
  case indexAddr t x i =>
    simp only [gS, hop] at h
    simp only [gR, hop]
    exact gk (fun p hp h1 => aP8 hp h1) (fun v => hk _) h
  case index t x i =>
    simp only [gS, hop] at h
    simp only [gR, hop]
    exact gk (fun p hp h1 => aUE hp h1) (fun v => hk _) h
  case call c =>
    cases hc : c.callee with
    | invoke r m => simp only [gS, hop, hc] at h; exact zK hk h
    | value g =>
      simp only [gS, hop, hc] at h
      simp only [gR, hop, hc]
      split at h
      · rename_i f caps hg
        obtain ⟨h1, h⟩ := bW h
        rw [hg]
        simp only [h1, aB]
        exact aTI hk h
      · simp at h
    | builtin b =>
      cases b
      case append =>
        simp only [gS, hop, hc] at h
        simp only [gR, hop, hc]
        split at h
        · rename_i x z hargs
          rw [hargs]
          simp only
          exact gk (fun p hp h1 => aTS hp h1) (fun v => hk _) h
        · simp at h
      all_goals (simp only [gS, hop, hc] at h; exact zK hk h)
  all_goals (simp only [gS, hop] at h; exact zK hk h)
theorem aTc {nt : Nat} {mv pu ta : Bool} {ops : Array Oper} {o : Oper} {s : (St m)} {k1 k2 : (St m) → Option β} {y : β} (hk : ∀ s, k2 s = some y → k1 s = some y) (h : aLP P D nt mv pu ta ops o s k2 = some y) : aQ9 P D nt mv pu ta ops o s k1 = some y := by
  unfold aLP at h
  unfold aQ9
  cases hg : o.guard with
  | none => rw [hg] at h; exact aO5 hk h
  | some g =>
    obtain ⟨j, want⟩ := g
    rw [hg] at h
    simp only at h ⊢
    cases hj : (ops[j]?).bind (·.dst) with
    | none => rw [hj] at h; simp at h
    | some t =>
      rw [hj] at h
      simp only at h ⊢
      rw [aTK] at h
      unfold rV at h ⊢
      split at h
      · rename_i b hb
        rw [qE] at h ⊢
        split at h
        · rename_i hbw
          rw [if_pos hbw]
          exact aO5 hk h
        · rename_i hbw
          rw [if_neg hbw]
          exact hk _ h
      · exact hk _ h
      · simp at h
theorem aOy {nt : Nat} {mv pu ta : Nat → Bool} {ops : Array Oper} {y : β} : ∀ (l : List Oper) (i : Nat) (s : (St m)) (k1 k2 : (St m) → Option β), (∀ s, k2 s = some y → k1 s = some y) → aCA P D nt mv pu ta ops l i s k2 = some y → mJ P D nt mv pu ta ops l i s k1 = some y
  | [], i, s, k1, k2, hk, h => hk _ h
  | o :: l, i, s, k1, k2, hk, h => by
    simp only [aCA] at h
    simp only [mJ]
    exact aTc (fun s' h' => aOy l (i + 1) s' k1 k2 hk h') h
def Up (loop : ((St m) → Option (Out m)) → ((St m) → Option (St m)) → (St m) → Option (Out m)) : Prop := ∀ body body' again s o, (∀ s o, body s = some o → body' s = some o) → loop body again s = some o → loop body' again s = some o
theorem aSO : Up (m := m) bN := by
  intro body body' again s o hb h
  obtain ⟨n, hn⟩ := aDQ.1 h
  exact aDQ.2 ⟨n, wQ hb n n (Nat.le_refl _) s o hn⟩
theorem aTU {f1 f2 : (St m) → Option β} {k1 k2 : (Out m) → Option β} {y : β} (hf : ∀ s, f2 s = some y → f1 s = some y) (hk : ∀ o, k2 o = some y → k1 o = some y) : ∀ o, aNh f2 k2 o = some y → aNh f1 k1 o = some y := by
  intro o h
  cases o with
  | norm s => exact hf s h
  | exit id s => exact hk _ h
  | ret s => exact hk _ h
theorem aQz {id : Nat} {k1 k2 : (Out m) → Option β} {y : β} (hk : ∀ o, k2 o = some y → k1 o = some y) : ∀ o, yY id k2 o = some y → yY id k1 o = some y := by
  intro o h
  cases o with
  | norm s => exact hk _ h
  | exit id' s =>
    simp only [yY] at h ⊢
    split at h
    · rename_i he; rw [if_pos he]; exact hk _ h
    · rename_i he; rw [if_neg he]; exact hk _ h
  | ret s => exact hk _ h
theorem aPt {H : gZ} {loop : ((St m) → Option (Out m)) → ((St m) → Option (St m)) → (St m) → Option (Out m)} (hL : Up loop) : ∀ (c : Code) (blk : Nat) {β : Type} (s : (St m)) (k1 k2 : (Out m) → Option β) (y : β), (∀ o, k2 o = some y → k1 o = some y) → eG P D H loop blk c s k2 = some y → fF P D H loop blk c s k1 = some y := by
  intro c
  induction c with
  | skip => intro blk β s k1 k2 y hk h; exact hk _ h
  | region id ops draw =>
    intro blk β s k1 k2 y hk h
    simp only [eG] at h
    obtain ⟨hg, h⟩ := bW h
    simp only [fF, hg, aB]
    exact aOy _ _ _ _ _ (fun s' h' => by rw [zN] at h'; exact hk _ h') h
  | seq a b iha ihb =>
    intro blk β s k1 k2 y hk h
    simp only [eG] at h
    simp only [fF]
    exact iha blk s _ _ y (aTU (fun s' => ihb blk s' k1 k2 y hk) hk) h
  | cond x a b iha ihb =>
    intro blk β s k1 k2 y hk h
    simp only [eG] at h
    simp only [fF]
    obtain ⟨t, ht, h⟩ := wI h
    rw [ht]
    simp only [qQ]
    simp only [zN] at h
    cases t
    · exact ihb blk _ k1 k2 y hk h
    · exact iha blk _ k1 k2 y hk h
  | block id a ih =>
    intro blk β s k1 k2 y hk h
    simp only [eG] at h
    simp only [fF]
    exact ih id s _ _ y (aQz hk) h
  | loop a ih =>
    intro blk β s k1 k2 y hk h
    simp only [eG] at h
    simp only [fF]
    rw [Option.bind_eq_some_iff] at h ⊢
    obtain ⟨o, ho, h⟩ := h
    exact ⟨o, hL _ _ _ _ _ (fun s' o' h' => ih blk s' some some o' (fun _ h => h) h') ho, hk _ h⟩
  | exit id => intro blk β s k1 k2 y hk h; exact hk _ h
  | ret => intro blk β s k1 k2 y hk h; exact hk _ h
  | _ => intro blk β s k1 k2 y hk h; simp [eG] at h
theorem aUZ {H : FuncId → gZ} {loop : ((St m) → Option (Out m)) → ((St m) → Option (St m)) → (St m) → Option (Out m)} (hL : Up loop) {f : FuncId} {a : List (SV m)} {b : List (List (SV m))} {r : (SV m) × List (List (SV m))} (h : aU P D H loop f a b = some r) : aP5 P D H loop f a b = some r := by
  unfold aU at h
  unfold aP5
  cases hfn : P.funcs[f]? with
  | none => rw [hfn] at h; simp at h
  | some fn =>
    rw [hfn] at h
    simp only at h ⊢
    cases hc : fn.body with
    | none => rw [hc] at h; simp at h
    | some c =>
      rw [hc] at h
      simp only at h ⊢
      exact aPt hL c 0 _ _ _ r (fun _ h => h) h
theorem aNC {T : (aMq m)} {H : FuncId → gZ} {f : FuncId} {a : List (SV m)} {b : List (List (SV m))} {r : (SV m) × List (List (SV m))} (hT : T f = none) (h : aU P (den P T H) H bN f a b = some r) : den P T H f a b = some r :=
  aVj hT (aUZ aSO h)
end
end Go.Vs
end
section
namespace Go.Vs
variable {m : Bool}
def sub : Code → List Nat → Code
  | c, [] => c
  | .seq a b, n :: r => if n = 0 then sub a r else sub b r
  | .cond _ a b, n :: r => if n = 0 then sub a r else sub b r
  | .block _ a, _ :: r => sub a r
  | .loop a, _ :: r => sub a r
  | c, _ => c
def oZ (P : Program) (f : FuncId) : Code := match P.funcs[f]? with | some fn => fn.body.getD .skip | none => .skip
def uF (P : Program) (f : FuncId) : Func := (P.funcs[f]?).getD default
structure Tab where
  mv : List (List Nat)
  boxed : List (List Nat)
  take : List (List Nat)
  clear : List (Nat × List Nat)
  drop : List (Nat × List Nat)
  after : List (List Nat)
  afterB : List (List Nat)
  condA : List (Nat × List Nat × List Nat)
  condB : List (Nat × List Nat × List Nat)
  fz : List (Nat × List Nat)
def Tab.hints (t : Tab) : gZ :=
  { nt := 0
    mv := fun r i => (t.mv.getD r []).contains i
    pure := fun r i => !(t.boxed.getD r []).contains i
    take := fun r i => (t.take.getD r []).contains i
    clear := fun b => ((t.clear.find? fun p => p.1 == b).map (·.2)).getD []
    drop := fun b => ((t.drop.find? fun p => p.1 == b).map (·.2)).getD []
    after := fun r => t.after.getD r []
    afterB := fun r => t.afterB.getD r []
    condA := fun b => ((t.condA.find? fun p => p.1 == b).map (·.2)).getD ([], [])
    condB := fun b => ((t.condB.find? fun p => p.1 == b).map (·.2)).getD ([], [])
    fz := fun b => ((t.fz.find? fun p => p.1 == b).map (·.2)).getD [] }
def aWC : Tab := ⟨[], [], [], [], [], [], [], [], [], []⟩
end Go.Vs
end
section
namespace Go.Vs
variable {m : Bool}
section
variable {α β : Type}
theorem jE (b : Bool) (x : Option α) (f : α → Option β) : (aB b x).bind f = aB b (x.bind f) := by cases b <;> rfl
theorem aGG (b : Bool) (x y : Option α) (f : α → Option β) : (aA b x y).bind f = aA b (x.bind f) (y.bind f) := by cases b <;> rfl
theorem aMi (v : (SV m)) (k : Bool → Option α) (f : α → Option β) : (qQ v k).bind f = qQ v fun b => (k b).bind f := by unfold qQ; split <;> rfl
theorem aPq (k0 : IntKind) (l : (aF m)) (k : Int → Option α) (f : α → Option β) : (eF k0 l k).bind f = eF k0 l fun n => (k n).bind f := by
  unfold eF; split
  · split <;> rfl
  · rfl
theorem aNW (l : (aF m)) (k : Bool → Option α) (f : α → Option β) : (eR l k).bind f = eR l fun n => (k n).bind f := by unfold eR; split <;> rfl
theorem aPB (l : (aF m)) (k : ByteArray → Option α) (f : α → Option β) : (cR l k).bind f = cR l fun n => (k n).bind f := by unfold cR; split <;> rfl
theorem aUq (l : (aF m)) (k : Fl m → List (List (aF m)) → Option α) (f : α → Option β) : (slK l k).bind f = slK l fun c n => (k c n).bind f := by unfold slK; split <;> rfl
theorem aI2 (P : Program) (t : TypeId) (l : (aF m)) (k : (aF m) → Option α) (f : α → Option β) : (aL0 P t l k).bind f = aL0 P t l fun n => (k n).bind f := by
  unfold aL0
  split
  · exact aPq _ _ _ _
  · exact aNW _ _ _
  · exact aPB _ _ _
  · exact aUq _ _ _
  · rfl
theorem aQ2 (e : List (aF m)) (p : Nat) (k : (aF m) → Option α) (f : α → Option β) : (atK e p k).bind f = atK e p fun n => (k n).bind f := by unfold atK; split <;> rfl
theorem aC6 (P : Program) : ∀ (ts : List TypeId) (e : List (aF m)) (p : Nat) (k : List (aF m) → Option α) (f : α → Option β), (yJ P ts e p k).bind f = yJ P ts e p fun n => (k n).bind f
  | [], e, p, k, f => rfl
  | t :: ts, e, p, k, f => by
    simp only [yJ]
    rw [aQ2]
    congr 1
    funext l
    rw [aI2]
    congr 1
    funext l'
    exact aC6 P ts e (p + 1) _ f
theorem aRO (P : Program) (t : TypeId) (e : List (aF m)) (p : Nat) (k : (SV m) → Option α) (f : α → Option β) : (aO8 P t e p k).bind f = aO8 P t e p fun n => (k n).bind f := by
  unfold aO8
  split
  · rw [Option.bind_assoc]
    congr 1
    funext ts
    rw [Option.bind_assoc]
    congr 1
    funext n
    split
    · exact aC6 P ts e p _ f
    · rfl
  · rw [aQ2]
    congr 1
    funext l
    exact aI2 P t l _ f
theorem aBk (v : (SV m)) (k : (aF m) → Option α) (f : α → Option β) : (aS v k).bind f = aS v fun n => (k n).bind f := by unfold aS; split <;> rfl
theorem aNH (v : (SV m)) (k : Fl m → List (List (aF m)) → Option α) (f : α → Option β) : (rD v k).bind f = rD v fun c n => (k c n).bind f := by unfold rD; split <;> rfl
theorem aL9 (e : TypeId) (v : (SV m)) (k : List (List (aF m)) → Option α) (f : α → Option β) : (rK e v k).bind f = rK e v fun n => (k n).bind f := by
  unfold rK; split
  · split <;> rfl
  · rfl
theorem aRd (v : (SV m)) (k : List (aF m) → Option α) (f : α → Option β) : (gK v k).bind f = gK v fun n => (k n).bind f := by unfold gK; split <;> rfl
theorem aQR (v : (SV m)) (k : Option α) (f : α → Option β) : (aIE v k).bind f = aIE v (k.bind f) := by unfold aIE; split <;> rfl
theorem aQW (v : (SV m)) (k : List (SV m) → Option α) (f : α → Option β) : (nH v k).bind f = nH v fun n => (k n).bind f := by unfold nH; split <;> rfl
theorem aNd (l : List (SV m)) (k : (SV m) → List (SV m) → Option α) (f : α → Option β) : (dO l k).bind f = dO l fun v r => (k v r).bind f := by unfold dO; split <;> rfl
theorem aN7 (l : List (SV m)) (k : Option α) (f : α → Option β) : (jP l k).bind f = jP l (k.bind f) := by unfold jP; split <;> rfl
theorem aFZ (P : Program) (own : Bool) (t : TypeId) (v : (SV m)) (k : (SV m) → Option α) (f : α → Option β) : (aF9 P own t v k).bind f = aF9 P own t v fun n => (k n).bind f := by
  unfold aF9
  split
  · split
    · exact aL9 _ _ _ _
    · exact aNH _ _ _
  · rw [aRd]
    congr 1
    funext cs
    rw [Option.bind_assoc]
    congr 1
    funext ts
    rw [jE]
    congr 1
    exact aC6 P ts cs 0 _ f
  · exact aQR _ _ _
  · rw [aBk]
    congr 1
    funext l
    exact aI2 P t l _ f
  · rfl
theorem aL8 (P : Program) : ∀ (ts : List TypeId) (l : List (SV m)) (k : List (SV m) → Option α) (f : α → Option β), (aGr P ts l k).bind f = aGr P ts l fun n => (k n).bind f
  | [], l, k, f => aN7 l _ f
  | t :: ts, l, k, f => by
    simp only [aGr]
    rw [aNd]
    congr 1
    funext v r
    rw [aFZ]
    congr 1
    funext v'
    exact aL8 P ts r _ f
theorem aR5 (P : Program) (own : Bool) (t : TypeId) (v : (SV m)) (k : (SV m) → Option α) (f : α → Option β) : (aPz P own t v k).bind f = aPz P own t v fun n => (k n).bind f := by
  unfold aPz
  split
  · rw [aQW]
    congr 1
    funext vs
    exact aL8 P _ vs _ f
  · exact aFZ P own t v k f
theorem aRK (c d : (SV m)) (k : (SV m) → Option α) (f : α → Option β) : (aPx c d k).bind f = aPx c d fun n => (k n).bind f := by
  unfold aPx
  split
  · rw [aBk]; congr 1; funext l; exact aPq _ _ _ _
  · rw [aBk]; congr 1; funext l; exact aNW _ _ _
  · rw [aBk]; congr 1; funext l; exact aPB _ _ _
  · exact aNH _ _ _
  · exact aL9 _ _ _ _
  · rfl
theorem aL2 : ∀ (cs l : List (SV m)) (k : List (SV m) → Option α) (f : α → Option β), (aGy cs l k).bind f = aGy cs l fun n => (k n).bind f
  | [], l, k, f => aN7 l _ f
  | c :: cs, l, k, f => by
    simp only [aGy]
    rw [aNd]
    congr 1
    funext v r
    rw [aRK]
    congr 1
    funext v'
    exact aL2 cs r _ f
theorem aTN (w : Bool) (c d : List (SV m)) (k : List (SV m) → Option α) (f : α → Option β) : (aVA w c d k).bind f = aVA w c d fun n => (k n).bind f := by
  cases w
  · exact aL2 c d k f
  · rfl
theorem aL4 : ∀ (ws : List Bool) (cs l : List (List (SV m))) (k : List (List (SV m)) → Option α) (f : α → Option β), (aBw ws cs l k).bind f = aBw ws cs l fun n => (k n).bind f
  | [], _, l, k, f => by simp only [aBw]; unfold oF; split <;> rfl
  | w :: ws, [], l, k, f => by simp only [aBw]; unfold oF; split <;> rfl
  | w :: ws, c :: cs, l, k, f => by
    simp only [aBw]
    unfold sW
    split
    · rw [aTN]
      congr 1
      funext v'
      exact aL4 ws cs _ _ f
    · rfl
theorem aS5 (cs : List (SV m)) (p : Nat) (k : (SV m) → Option α) (f : α → Option β) : (aI5 cs p k).bind f = aI5 cs p fun n => (k n).bind f := by unfold aI5; split <;> rfl
theorem aRU (P : Program) (t : TypeId) (c : (SV m)) (k : (SV m) → Option α) (f : α → Option β) : (aPf P t c k).bind f = aPf P t c fun n => (k n).bind f := by
  unfold aPf; split
  · exact aFZ P false t _ k f
  · rfl
theorem aPk (P : Program) (own : Bool) (dst : Option Tmp) (t : TypeId) (v : (SV m)) (k : (SV m) → Option α) (f : α → Option β) : (aSm P own dst t v k).bind f = aSm P own dst t v fun n => (k n).bind f := by
  unfold aSm; split
  · rfl
  · exact aR5 P own t v k f
variable {P : Program} {D : (cD m)}
theorem aQM (s : (St m)) (own pu : Bool) (g : FuncId) (args : List (SV m)) (dst : Option Tmp) (t : TypeId) (k : (St m) → Option α) (f : α → Option β) : (aLn P D s own pu g args dst t k).bind f = aLn P D s own pu g args dst t fun n => (k n).bind f := by
  unfold aLn
  rw [jE]
  congr 1
  split
  · rw [jE, Option.bind_assoc]
    congr 1
    congr 1
    funext r
    exact aPk _ _ _ _ _ _ _
  · rw [Option.bind_assoc]
    congr 1
    funext cs
    rw [jE, Option.bind_assoc]
    congr 1
    congr 1
    funext r
    rw [aL4]
    congr 1
    funext bs
    exact aPk _ _ _ _ _ _ _
theorem zH {nt : Nat} {mv pu ta : Bool} {o : Oper} {s : (St m)} (k : (St m) → Option α) (f : α → Option β) : (gR P D nt mv pu ta o s k).bind f = gR P D nt mv pu ta o s fun n => (k n).bind f := by
  rw [aGO, aGO, Option.bind_assoc]
theorem aOj (x : Option (Bool × (SV m))) (k : (SV m) → Option α) (f : α → Option β) : (x.bind fun p => aB p.1 (k p.2)).bind f = x.bind fun p => aB p.1 ((k p.2).bind f) := by
  rw [Option.bind_assoc]; congr 1; funext p; exact jE _ _ _
theorem aNG {nt : Nat} {mv pu ta : Bool} {o : Oper} {s : (St m)} (k : (St m) → Option α) (f : α → Option β) : (gS P D nt mv pu ta o s k).bind f = gS P D nt mv pu ta o s fun n => (k n).bind f := by
  cases hop : o.op
  case pick c x z =>
    simp only [gS, hop]
    rw [aMi]
    congr 1
    funext b
    rw [aGG]
  case load t x =>
    simp only [gS, hop]
    split
    · exact aRO P t _ _ _ f
    · split
      · rw [Option.bind_assoc]
        congr 1
        funext cs
        rw [aS5]
        congr 1
        funext c
        exact aRU P t c _ f
      · exact zH k f
    · exact zH k f
  case store t x y =>
    simp only [gS, hop]
    split
    · rw [Option.bind_assoc]
      congr 1
      funext cs
      rw [Option.bind_assoc]
      congr 1
      funext n
      rw [jE, jE]
    · exact zH k f
  case makeSlice t l c =>
    simp only [gS, hop]
    split
    · split
      · rw [jE, Option.bind_assoc]
        congr 1
        congr 1
        funext p
        exact jE _ _ _
      · rfl
    · rfl
  case binOp op t x z u => simp only [gS, hop]; exact aOj _ (fun v => k (s.put o.dst v)) f
  case convert src dst x => simp only [gS, hop]; exact aOj _ (fun v => k (s.put o.dst v)) f
  case slice t x lo hi mx =>
    cases mx with
    | some m => simp only [gS, hop]; exact zH k f
    | none =>
      simp only [gS, hop]
      rw [Option.bind_assoc]; congr 1; funext l
      rw [Option.bind_assoc]; congr 1; funext h
      rw [Option.bind_assoc]; congr 1; funext p
      exact jE _ _ _
  case indexAddr t x i => simp only [gS, hop]; exact aOj _ (fun v => k (s.put o.dst v)) f
  case index t x i => simp only [gS, hop]; exact aOj _ (fun v => k (s.put o.dst v)) f
  case call c =>
    cases hc : c.callee with
    | invoke r m => simp only [gS, hop, hc]; exact zH k f
    | value g =>
      simp only [gS, hop, hc]
      split
      · rw [jE, aQM]
      · rfl
    | builtin b =>
      cases b
      case append =>
        simp only [gS, hop, hc]
        split
        · rename_i x z _
          exact aOj _ (fun v => k ((s.take x).put o.dst v)) f
        · rfl
      all_goals (simp only [gS, hop, hc]; exact zH k f)
  all_goals (simp only [gS, hop]; exact zH k f)
theorem aSh {nt : Nat} {mv pu ta : Bool} {ops : Array Oper} {o : Oper} {s : (St m)} (k : (St m) → Option α) (f : α → Option β) : (aLP P D nt mv pu ta ops o s k).bind f = aLP P D nt mv pu ta ops o s fun n => (k n).bind f := by
  unfold aLP
  split
  · exact aNG k f
  · split
    · unfold aQa
      split
      · rw [aGG, aNG]
      · rfl
      · rfl
    · rfl
theorem aL3 {nt : Nat} {mv pu ta : Nat → Bool} {ops : Array Oper} : ∀ (l : List Oper) (i : Nat) (s : (St m)) (k : (St m) → Option α) (f : α → Option β), (aCA P D nt mv pu ta ops l i s k).bind f = aCA P D nt mv pu ta ops l i s fun n => (k n).bind f
  | [], i, s, k, f => rfl
  | o :: l, i, s, k, f => by
    simp only [aCA]
    rw [aSh]
    congr 1
    funext s'
    exact aL3 l (i + 1) s' k f
end
theorem aOh {P : Program} {D : (cD m)} {H : gZ} {loop : ((St m) → Option (Out m)) → ((St m) → Option (St m)) → (St m) → Option (Out m)} : ∀ (c : Code) (blk : Nat) {β γ : Type} (s : (St m)) (k : (Out m) → Option β) (f : β → Option γ), (eG P D H loop blk c s k).bind f = eG P D H loop blk c s fun o => (k o).bind f := by
  intro c
  induction c with
  | skip => intro blk β γ s k f; rfl
  | region id ops draw =>
    intro blk β γ s k f
    simp only [eG, zN]
    rw [jE, aL3]
  | seq a b iha ihb =>
    intro blk β γ s k f
    simp only [eG]
    rw [iha]
    congr 1
    funext o
    cases o with
    | norm s' => exact ihb blk s' k f
    | exit id s' => rfl
    | ret s' => rfl
  | cond x a b iha ihb =>
    intro blk β γ s k f
    simp only [eG, zN]
    rw [aMi]
    congr 1
    funext t
    rw [aGG, iha, ihb]
  | block id a ih =>
    intro blk β γ s k f
    simp only [eG]
    rw [ih]
    congr 1
    funext o
    cases o with
    | norm s' => rfl
    | exit id' s' => simp only [yY]; split <;> rfl
    | ret s' => rfl
  | loop a ih => intro blk β γ s k f; simp only [eG]; rw [Option.bind_assoc]
  | exit id => intro blk β γ s k f; rfl
  | ret => intro blk β γ s k f; rfl
  | _ => intro blk β γ s k f; rfl
def aVT (ts bs : List Nat) (L : (St m) → Option (Out m)) : (Out m) → Option (Out m)
  | .norm s => (s.again ts bs).bind L
  | .exit id s => some (.exit id s)
  | .ret s => some (.ret s)
def aSE (P : Program) (D : (cD m)) (H : gZ) (loop : ((St m) → Option (Out m)) → ((St m) → Option (St m)) → (St m) → Option (Out m)) (blk : Nat) (c : Code) (L : (St m) → Option (Out m)) (s : (St m)) : Option (Out m) :=
  (s.again (H.clear blk) (H.drop blk)).bind fun s => eG P D H loop blk c s (aVT (H.clear blk) (H.drop blk) L)
noncomputable def aPl (P : Program) (D : (cD m)) (H : gZ) (blk : Nat) (c : Code) : (St m) → Option (Out m) := bN (fun s => eG P D H bN blk c s some) (fun s => s.again (H.clear blk) (H.drop blk))
theorem aF0 {α : Type} (x : α) (ts : List Nat) : ∀ (l : List α), (∀ t ∈ ts, l[t]? = none ∨ l[t]? = some x) → ts.foldl (fun l t => l.set t x) l = l := by
  induction ts with
  | nil => intro l _; rfl
  | cons t ts ih =>
    intro l h
    have h0 : l.set t x = l := by
      rcases h t (by simp) with h | h
      · rw [List.set_eq_of_length_le (by simpa using h)]
      · apply List.ext_getElem?
        intro i
        by_cases hi : t = i
        · subst hi
          rw [List.getElem?_set_self (List.getElem?_eq_some_iff.1 h).1, h]
        · rw [List.getElem?_set_ne hi]
    rw [List.foldl_cons, h0]
    exact ih l fun u hu => h u (by simp [hu])
theorem aHL {α : Type} (x : α) (ts : List Nat) : ∀ (l : List α), ∀ t ∈ ts, (ts.foldl (fun l t => l.set t x) l)[t]? = none ∨ (ts.foldl (fun l t => l.set t x) l)[t]? = some x := by
  have aDY : ∀ (ts : List Nat) (l : List α) (t : Nat), (l[t]? = none ∨ l[t]? = some x) → ((ts.foldl (fun l t => l.set t x) l)[t]? = none ∨ (ts.foldl (fun l t => l.set t x) l)[t]? = some x) := by
    intro ts
    induction ts with
    | nil => intro l t h; exact h
    | cons u ts ih =>
      intro l t h
      rw [List.foldl_cons]
      refine ih _ t ?_
      by_cases hu : u = t
      · subst hu
        by_cases hl : u < l.length
        · right; exact List.getElem?_set_self hl
        · left; exact List.getElem?_eq_none (by simpa using hl)
      · rw [List.getElem?_set_ne hu]; exact h
  induction ts with
  | nil => intro l t h; simp at h
  | cons u ts ih =>
    intro l t ht
    rw [List.foldl_cons]
    by_cases h : t ∈ ts
    · exact ih _ t h
    · have : t = u := by
        rcases List.mem_cons.1 ht with h' | h'
        · exact h'
        · exact absurd h' h
      subst this
      refine aDY ts _ t ?_
      by_cases hl : t < l.length
      · right; exact List.getElem?_set_self hl
      · left; exact List.getElem?_eq_none (by simpa using hl)
theorem aQy (s : (St m)) (ts bs : List Nat) : (s.forget ts bs).forget ts bs = s.forget ts bs := by
  unfold St.forget
  congr 1
  · exact aF0 _ _ _ (aHL _ _ _)
  · exact aF0 _ _ _ (aHL _ _ _)
theorem aSi {s c : (St m)} {ts bs : List Nat} (h : s.again ts bs = some c) : c.again ts bs = some c := by
  unfold St.again at h ⊢
  obtain ⟨h1, h2⟩ := bW h
  simp only [Option.some.injEq] at h2
  subst h2
  rw [aQy, h1]
  rfl
theorem aRo (P : Program) (D : (cD m)) (H : gZ) (blk : Nat) (c : Code) (s : (St m)) : aPl P D H blk c s = (s.again (H.clear blk) (H.drop blk)).bind (aPl P D H blk c) := by
  unfold aPl
  rw [aLu]
  cases h : s.again (H.clear blk) (H.drop blk) with
  | none => rfl
  | some c' =>
    simp only [Option.bind_some]
    rw [aLu _ _ c', aSi h]
    rfl
theorem aRP (P : Program) (D : (cD m)) (H : gZ) (blk : Nat) (c : Code) (s : (St m)) : aPl P D H blk c s = aSE P D H bN blk c (aPl P D H blk c) s := by
  show bN _ _ s = _
  rw [aLu]
  unfold aSE
  congr 1
  funext s'
  rw [aOh]
  congr 1
  funext o
  cases o with
  | norm s2 => exact aRo P D H blk c s2
  | exit id s2 => rfl
  | ret s2 => rfl
end Go.Vs
end
