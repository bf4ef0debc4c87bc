/- Code, a function's run, and calls to whatever depth: what the shadow runner tells is so on the machine. -/
import Derived.Test.YtdnbagcbdagofaaVVsReg
import Derived.LoopN
namespace Go.Vs
variable {m : Bool}
variable {P : Program} {N : Env}

theorem setAny_get (ts : List Nat) : ∀ (l : List (SV m)) (t : Nat), (ts.foldl (fun l t => l.set t .any) l).length = l.length ∧
    ((ts.foldl (fun l t => l.set t .any) l).getD t .any = .any ∨ (ts.foldl (fun l t => l.set t .any) l).getD t .any = l.getD t .any) := by
  induction ts with
  | nil => intro l t; exact ⟨rfl, .inr rfl⟩
  | cons u ts ih =>
    intro l t
    obtain ⟨h1, h2⟩ := ih (l.set u .any) t
    refine ⟨by rw [List.foldl_cons, h1]; simp, ?_⟩
    rw [List.foldl_cons]
    rcases h2 with h2 | h2
    · exact .inl h2
    · rw [h2]
      by_cases hu : t = u
      · subst hu
        left
        by_cases hl : t < l.length
        · rw [List.getD_eq_getElem?_getD, List.getElem?_set_self hl]; rfl
        · rw [List.getD_eq_getElem?_getD, List.getElem?_eq_none (by simpa using hl)]; rfl
      · right
        rw [List.getD_eq_getElem?_getD, List.getElem?_set_ne (fun e => hu e.symm), ← List.getD_eq_getElem?_getD]
theorem setNone_get (bs : List Nat) : ∀ (l : (Boxes m)), (bs.foldl (fun l b => l.set b none) l).length = l.length ∧ ∀ b, (b ∉ bs → boxAt (bs.foldl (fun l b => l.set b none) l) b = boxAt l b) ∧ (b ∈ bs → boxAt (bs.foldl (fun l b => l.set b none) l) b = none) := by
  induction bs with
  | nil => intro l; exact ⟨rfl, fun b => ⟨fun _ => rfl, by simp⟩⟩
  | cons c bs ih =>
    intro l
    obtain ⟨h1, h2⟩ := ih (l.set c none)
    refine ⟨by rw [List.foldl_cons, h1]; simp, fun b => ⟨fun hb => ?_, fun hb => ?_⟩⟩
    · rw [List.mem_cons, not_or] at hb
      rw [List.foldl_cons, (h2 b).1 hb.2, boxAt_set_ne hb.1]
    · rw [List.foldl_cons]
      by_cases hb2 : b ∈ bs
      · exact (h2 b).2 hb2
      · have : b = c := by
          rcases List.mem_cons.1 hb with h | h
          · exact h
          · exact absurd h hb2
        subst this
        rw [(h2 b).1 hb2]
        by_cases hl : b < l.length
        · rw [boxAt_set_self hl]
        · unfold boxAt
          rw [List.getD_eq_getElem?_getD, List.getElem?_eq_none (by simpa using hl)]; rfl

theorem RepF.fewer {w : World} {F : Fr} {bm : Nat → Nat} {al al' : Nat → Bool} {bs : List Nat} {x : (SV m)} {v : Value} (h : RepF w F N bm al x v) (hn : x.noPtr bs = true) (ha : ∀ b, b ∉ bs → al b = true → al' b = true) : RepF w F N bm al' x v := by
  cases x with
  | ptr b o =>
    simp only [RepF] at h ⊢
    exact ⟨h.1, ha b (by simpa [SV.noPtr] using hn) h.2⟩
  | bsl b z lo n =>
    simp only [RepF] at h ⊢
    obtain ⟨cap, h1, h2, h3⟩ := h
    exact ⟨cap, h1, h2, ha b (by simpa [SV.noPtr] using hn) h3⟩
  | _ => exact h
theorem RepS.fewer {w : World} {F : Fr} {Ow : Own} {bm : Nat → Nat} {al al' : Nat → Bool} {bs : List Nat} {loc : Loc} {x : (SV m)} {v : Value} (h : RepS P w F N Ow bm al loc x v) (hn : x.noBox bs = true) (ha : ∀ b, b ∉ bs → al b = true → al' b = true) : RepS P w F N Ow bm al' loc x v := by
  cases x with
  | ptr b o =>
    have h' : RepF (m := m) w F N bm al (.ptr b o) v := by simpa only [RepS] using h
    simpa only [RepS] using h'.fewer hn ha
  | bsl b z lo n =>
    have h' : RepF (m := m) w F N bm al (.bsl b z lo n) v := by simpa only [RepS] using h
    simpa only [RepS] using h'.fewer hn ha
  | fn g caps =>
    obtain ⟨vs, e, hs, hc⟩ := h
    exact ⟨vs, e, hs, fun j c u a b => (hc j c u a b).fewer (List.all_eq_true.1 hn c (List.mem_of_getElem? a)) ha⟩
  | tup cs =>
    obtain ⟨vs, e, hs, hc⟩ := h
    exact ⟨vs, e, hs, fun j c u a b => (hc j c u a b).fewer (List.all_eq_true.1 hn c (List.mem_of_getElem? a)) ha⟩
  | own eo es => exact h
  | leaf l => exact h
  | agg cs => exact h
  | nilptr => exact h
  | nilface => exact h
  | any => exact h
  | skip => exact h
  | eptr c e o => exact h

section
variable {s : (St m)} {a : Act} {w : World} {F : Fr} {Ow : Own} {bm : Nat → Nat} {nt : Nat}

theorem Inv.again {tmps : Array Value} (h : Inv P s tmps w F N Ow bm) {ts bs : List Nat} {s' : (St m)} (hs : s.again ts bs = some s') : Inv P s' tmps w F N Ow bm ∧ s'.boxes.length = s.boxes.length := by
  unfold St.again at hs
  obtain ⟨hn, hs⟩ := guarded_eq hs
  simp only [Option.some.injEq] at hs
  subst hs
  obtain ⟨hl, hb⟩ := setNone_get bs s.boxes
  refine ⟨?_, hl⟩
  have slotRep : ∀ t, RepS P w F N Ow bm s.al (.tmp t) ((s.forget ts bs).tmps.getD t .any) (tmps.getD t undef) := by
    intro t
    rcases (setAny_get ts s.tmps t).2 with h2 | h2
    · show RepS P w F N Ow bm s.al (.tmp t) ((ts.foldl (fun l t => l.set t .any) s.tmps).getD t .any) _
      rw [h2]; exact RepS.any
    · show RepS P w F N Ow bm s.al (.tmp t) ((ts.foldl (fun l t => l.set t .any) s.tmps).getD t .any) _
      rw [h2]; exact h.slot t
  have ha : ∀ b, b ∉ bs → s.al b = true → (s.forget ts bs).al b = true := by
    intro b hb' hal
    show (boxAt (bs.foldl (fun l b => l.set b none) s.boxes) b).isSome = true
    rw [(hb b).1 hb']; exact hal
  have hbox : ∀ b cs, boxAt (s.forget ts bs).boxes b = some cs → b ∉ bs ∧ boxAt s.boxes b = some cs := by
    intro b cs hbc
    have hbc' : boxAt (bs.foldl (fun l b => l.set b none) s.boxes) b = some cs := hbc
    by_cases hm : b ∈ bs
    · rw [(hb b).2 hm] at hbc'; simp at hbc'
    · rw [(hb b).1 hm] at hbc'; exact ⟨hm, hbc'⟩
  unfold St.noBox at hn
  rw [Bool.or_eq_true] at hn
  have fewer : ∀ (loc : Loc) (x : (SV m)) (v : Value), (bs.isEmpty = false → x.noBox bs = true) → RepS P w F N Ow bm s.al loc x v → RepS P w F N Ow bm (s.forget ts bs).al loc x v := by
    intro loc x v hx hr
    cases hbe : bs.isEmpty with
    | false => exact hr.fewer (hx hbe) ha
    | true =>
      have : bs = [] := by simpa using hbe
      subst this
      exact hr
  refine ⟨by rw [← h.len]; exact (setAny_get ts s.tmps 0).1, fun t => ?_, fun b cs hbc => ?_, h.low, h.new, fun b cs hbc => h.bmn b cs (hbox b cs hbc).2, h.zow⟩
  · refine fewer _ _ _ (fun hbe => ?_) (slotRep t)
    rcases hn with hn | hn
    · rw [hbe] at hn; simp at hn
    · rw [Bool.and_eq_true] at hn
      rcases Nat.lt_or_ge t (s.forget ts bs).tmps.length with ht | ht
      · rw [List.getD_eq_getElem?_getD, List.getElem?_eq_getElem ht]
        exact List.all_eq_true.1 hn.1 _ (List.getElem_mem ht)
      · rw [List.getD_eq_getElem?_getD, List.getElem?_eq_none ht]; rfl
  · obtain ⟨hm, hbc'⟩ := hbox b cs hbc
    obtain ⟨cur, e, g1, g2, g3, g4, g5⟩ := h.box b cs hbc'
    refine ⟨cur, e, g1, g2, g3, g4, fun j c u hc hu => fewer _ _ _ (fun hbe => ?_) (g5 j c u hc hu)⟩
    rcases hn with hn | hn
    · rw [hbe] at hn; simp at hn
    · rw [Bool.and_eq_true] at hn
      have hlt := boxAt_lt hbc
      have : (s.forget ts bs).boxes[b]? = some (some cs) := by
        have hbc2 := hbc
        unfold boxAt at hbc2
        rw [List.getD_eq_getElem?_getD, List.getElem?_eq_getElem hlt] at hbc2
        rw [List.getElem?_eq_getElem hlt]
        simpa using hbc2
      have h1 := List.all_eq_true.1 hn.2 _ (List.mem_of_getElem? this)
      exact List.all_eq_true.1 h1 c (List.mem_of_getElem? hc)

theorem Inv.tidy {tmps : Array Value} (h : Inv P s tmps w F N Ow bm) (ts bs : List Nat) : Inv P (s.tidy ts bs) tmps w F N Ow bm ∧ (s.tidy ts bs).boxes.length = s.boxes.length := by
  have h0 := h.again (ts := ts) (bs := []) (by simp [St.again, St.noBox, guarded]; rfl)
  cases bs with
  | nil => exact h0
  | cons b bs =>
    simp only [St.tidy]
    cases hs : s.again ts ((b :: bs).filter fun b => !(s.forget ts []).refs.contains b) with
    | some s' => exact h.again hs
    | none => exact h0
theorem Step.tidy {s' : (St m)} {a' : Act} {w' : World} (h : Step P N nt s' a w F Ow bm a' w') (ts bs : List Nat) : Step P N nt (s'.tidy ts bs) a w F Ow bm a' w' := by
  obtain ⟨F1, O1, b1, h1, h2⟩ := h
  exact ⟨F1, O1, b1, (h1.tidy ts bs).1, h2⟩
theorem Inv.dropC {tmps : Array Value} (h : Inv P s tmps w F N Ow bm) (d : Nat → List Nat × List Nat) (c : Operand) : Inv P (s.dropC d c) tmps w F N Ow bm ∧ (s.dropC d c).boxes.length = s.boxes.length := by
  cases c with
  | tmp t =>
    exact h.tidy (d t).1 (d t).2
  | _ => exact ⟨h, rfl⟩
theorem tidy_length (s : (St m)) (ts bs : List Nat) : (s.tidy ts bs).boxes.length = s.boxes.length := by
  have key : ∀ (s : (St m)) ts bs, (s.forget ts bs).boxes.length = s.boxes.length := fun s ts bs => (setNone_get bs s.boxes).1
  cases bs with
  | nil => exact key _ _ _
  | cons b bs =>
    simp only [St.tidy]
    cases hs : s.again ts ((b :: bs).filter fun b => !(s.forget ts []).refs.contains b) with
    | some s' =>
      unfold St.again at hs
      obtain ⟨_, hs⟩ := guarded_eq hs
      simp only [Option.some.injEq] at hs
      subst hs
      exact key _ _ _
    | none => exact key _ _ _

/-- How a piece of code ends. -/
def Ends (P : Program) (N : Env) (nt L : Nat) (a : Act) (w : World) (F : Fr) (Ow : Own) (bm : Nat → Nat) : (Out m) → Exit → Act → World → Prop
  | .norm s', .normal, a', w' => Step P N nt s' a w F Ow bm a' w' ∧ s'.boxes.length = L
  | .exit id s', .exit id', a', w' => id = id' ∧ Step P N nt s' a w F Ow bm a' w' ∧ s'.boxes.length = L
  | .ret s', .ret, a', w' => Step P N nt s' a w F Ow bm a' w' ∧ s'.boxes.length = L
  | _, _, _, _ => False
theorem Ends.trans {L : Nat} {s1 : (St m)} {a1 : Act} {w1 : World} (h : Step P N nt s1 a w F Ow bm a1 w1) : ∃ F1 O1 b1, Inv P s1 a1.tmps w1 F1 N O1 b1 ∧ ∀ (out : Out m) ex a2 w2, Ends P N nt L a1 w1 F1 O1 b1 out ex a2 w2 → Ends P N nt L a w F Ow bm out ex a2 w2 := by
  obtain ⟨F1, O1, b1, h1, htr⟩ := h.inv
  refine ⟨F1, O1, b1, h1, fun out ex a2 w2 he => ?_⟩
  cases out <;> cases ex <;> simp only [Ends] at he ⊢
  · exact ⟨htr _ _ _ he.1, he.2⟩
  · exact ⟨he.1, htr _ _ _ he.2.1, he.2.2⟩
  · exact ⟨htr _ _ _ he.1, he.2⟩

abbrev loopN (n : Nat) : ((St m) → Option (Out m)) → ((St m) → Option (St m)) → (St m) → Option (Out m) := fun body again s => rounds body again n s

theorem code_sound (hP : P.follows .mixedOrders = true) {D : (Oracle m)} (hD : DSound P D) {H : Hints} (hH : H.nt = nt) (n L : Nat) (hL : nt ≤ L) : ∀ (c : Code) (blk : Nat) {β : Type} (k : (Out m) → Option β) (y : β) (s : (St m)) (a : Act) (w : World) (F : Fr) (Ow : Own) (bm : Nat → Nat)
    (Q : Exit → Act → World → Prop), codeK P D H (loopN n) blk c s k = some y → Inv P s a.tmps w F N Ow bm → s.boxes.length = L →
    (∀ out ex a' w', k out = some y → Ends P N nt L a w F Ow bm out ex a' w' → Q ex a' w') → c.wp P Q a w := by
  intro c
  induction c with
  | skip =>
    intro blk β k y s a w F Ow bm Q hc h hl hk
    exact wp_skip (hk _ _ a w hc ⟨Step.refl h, hl⟩)
  | region id ops draw =>
    intro blk β k y s a w F Ow bm Q hc h hl hk
    simp only [codeK] at hc
    obtain ⟨hd, hc⟩ := guarded_eq hc
    rw [stepsK_bind, Option.bind_eq_some_iff] at hc
    obtain ⟨s', hs, hks⟩ := hc
    rw [hH] at hs
    refine region_sound hP hD h (by omega) (fun hdr => by simpa [hdr] using hd) hs fun a' w' hst => hk _ _ _ _ hks ⟨hst.tidy _ _, by rw [tidy_length, stepsK_boxes _ _ _ _ hs, hl]⟩
  | seq c1 c2 ih1 ih2 =>
    intro blk β k y s a w F Ow bm Q hc h hl hk
    simp only [codeK] at hc
    refine wp_seq (ih1 blk _ y s a w F Ow bm _ hc h hl fun out ex a' w' ho he => ?_)
    cases out <;> cases ex <;> simp only [Ends] at he
    · obtain ⟨hst, hl'⟩ := he
      obtain ⟨F1, O1, b1, h1, htr⟩ := Ends.trans (L := L) hst
      exact ih2 blk k y _ a' w' F1 O1 b1 Q ho h1 hl' fun out ex a2 w2 ho2 he2 => hk out ex a2 w2 ho2 (htr _ _ _ _ he2)
    · exact hk _ _ _ _ ho he
    · exact hk _ _ _ _ ho he
  | cond x c1 c2 ih1 ih2 =>
    intro blk β k y s a w F Ow bm Q hc h hl hk
    simp only [codeK] at hc
    obtain ⟨b, hb, hc⟩ := onBool_eq hc
    have hv := repL_bool ((h.eval (a := a) rfl x).leafOf _ (drop_leaf hb))
    rw [branch_eq] at hc
    cases b
    · exact wp_cond_false hv (ih2 blk k y _ a w F Ow bm Q (by simpa using hc) (h.dropC _ _).1 (by rw [(h.dropC _ _).2, hl]) hk)
    · exact wp_cond_true hv (ih1 blk k y _ a w F Ow bm Q (by simpa using hc) (h.dropC _ _).1 (by rw [(h.dropC _ _).2, hl]) hk)
  | block id c ih =>
    intro blk β k y s a w F Ow bm Q hc h hl hk
    simp only [codeK] at hc
    refine wp_block (ih id _ y s a w F Ow bm _ hc h hl fun out ex a' w' ho he => ?_)
    cases out <;> cases ex <;> simp only [Ends] at he
    · exact hk _ _ _ _ ho he
    · rename_i id1 s1 id2
      obtain ⟨rfl, he⟩ := he
      simp only [Exit.inBlock]
      by_cases hid : id1 = id
      · simp only [blockK, hid, if_true] at ho ⊢
        exact hk _ _ _ _ ho he
      · simp only [blockK, hid, if_false] at ho ⊢
        exact hk _ _ _ _ ho ⟨rfl, he⟩
    · exact hk _ _ _ _ ho he
  | loop c ih =>
    intro blk β k y s a w F Ow bm Q hc h hl hk
    simp only [codeK] at hc
    rw [Option.bind_eq_some_iff] at hc
    obtain ⟨out, hr, hko⟩ := hc
    refine wp_loop_rounds n ?_
    have key : ∀ (q : Nat) (s : (St m)) (a1 : Act) (w1 : World) (F1 : Fr) (O1 : Own) (b1 : Nat → Nat), rounds (fun s => codeK P D H (loopN n) blk c s some) (fun s => s.again (H.clear blk) (H.drop blk)) q s = some out → Inv P s a1.tmps w1 F1 N O1 b1 → s.boxes.length = L →
        (∀ ex a2 w2, Ends P N nt L a1 w1 F1 O1 b1 out ex a2 w2 → Q ex a2 w2) → Code.rounds P c Q q a1 w1 := by
      intro q
      induction q with
      | zero => intro s a1 w1 F1 O1 b1 hr _ _ _; simp [rounds] at hr
      | succ q ihm =>
        intro s a1 w1 F1 O1 b1 hr h1 hl1 hq
        simp only [rounds] at hr
        rw [Option.bind_eq_some_iff] at hr
        obtain ⟨s2, hag, hr⟩ := hr
        rw [Option.bind_eq_some_iff] at hr
        obtain ⟨o, hb, hr⟩ := hr
        obtain ⟨h2, hl2⟩ := h1.again hag
        rw [rounds_succ]
        refine ih blk some o s2 a1 w1 F1 O1 b1 _ hb h2 (by rw [hl2, hl1]) fun out' ex a2 w2 ho he => ?_
        simp only [Option.some.injEq] at ho
        subst ho
        cases out' <;> cases ex <;> simp only [Ends] at he
        · obtain ⟨hst, hl3⟩ := he
          obtain ⟨F3, O3, b3, h3, htr⟩ := Ends.trans (L := L) hst
          exact ihm _ a2 w2 F3 O3 b3 hr h3 hl3 fun ex a4 w4 he4 => hq ex a4 w4 (htr _ _ _ _ he4)
        · simp only [Option.some.injEq] at hr
          subst hr
          exact hq _ _ _ he
        · simp only [Option.some.injEq] at hr
          subst hr
          exact hq _ _ _ he
    exact key n s a w F Ow bm hr h hl fun ex a2 w2 he => hk out ex a2 w2 hko he
  | exit id =>
    intro blk β k y s a w F Ow bm Q hc h hl hk
    exact wp_exit (hk _ _ a w hc ⟨rfl, Step.refl h, hl⟩)
  | ret =>
    intro blk β k y s a w F Ow bm Q hc h hl hk
    exact wp_ret (hk _ _ a w hc ⟨Step.refl h, hl⟩)
  | _ =>
    intro blk β k y s a w F Ow bm Q hc
    simp [codeK] at hc
end
end Go.Vs
