/- What the program's functions compute, read off their text by the shadow runner (VsCall, VsBack, VsAll, VsReg, VsCode); no condition. -/
import Derived.LoopN
import Derived.Test.YtoegkbokjmopnaaDoorVB1
section
namespace Go.Vs
variable {m : Bool}
variable {P : Program} {N : Env}
theorem mem_addId {l : List Nat} {b c : Nat} : c ∈ addId l b ↔ c ∈ l ∨ c = b := by
  unfold addId
  split
  · rename_i h
    constructor
    · exact .inl
    · rintro (h' | rfl)
      · exact h'
      · simpa using h
  · simp
theorem nodup_addId {l : List Nat} {b : Nat} (h : l.Nodup) : (addId l b).Nodup := by
  unfold addId
  split
  · exact h
  · rename_i hb
    rw [List.nodup_append]
    refine ⟨h, by simp, fun x hx y hy => ?_⟩
    simp at hy
    subst hy
    rintro rfl
    exact hb (by simpa using hx)
theorem foldl_addId (m : List Nat) : ∀ (l : List Nat), (l.Nodup → (m.foldl addId l).Nodup) ∧ ∀ c, c ∈ m.foldl addId l ↔ c ∈ l ∨ c ∈ m := by
  induction m with
  | nil => intro l; exact ⟨id, fun c => by simp⟩
  | cons b m ih =>
    intro l
    obtain ⟨h1, h2⟩ := ih (addId l b)
    refine ⟨fun h => h1 (nodup_addId h), fun c => ?_⟩
    rw [List.foldl_cons, h2 c, mem_addId, List.mem_cons]
    constructor
    · rintro ((h | h) | h)
      · exact .inl h
      · exact .inr (.inl h)
      · exact .inr (.inr h)
    · rintro (h | h | h)
      · exact .inl (.inl h)
      · exact .inl (.inr h)
      · exact .inr h
theorem idsOf_nodup (args : List (SV m)) : (idsOf args).Nodup := (foldl_addId _ []).1 List.nodup_nil
theorem mem_idsOf {args : List (SV m)} {c : Nat} : c ∈ idsOf args ↔ ∃ x ∈ args, c ∈ x.boxIds := by
  unfold idsOf
  rw [(foldl_addId _ []).2 c]
  simp
theorem placeIn_get : ∀ {l : List Nat} {b : Nat}, b ∈ l → l[placeIn l b]? = some b
  | [], _, h => by simp at h
  | x :: l, b, h => by
    unfold placeIn
    rw [List.findIdx_cons]
    by_cases hx : x = b
    · simp [hx]
    · have : (x == b) = false := by simpa using hx
      rw [this]
      simp only [cond_false, List.getElem?_cons_succ]
      exact placeIn_get (List.mem_of_ne_of_mem (fun e => hx e.symm) h)
theorem placeIn_of : ∀ {l : List Nat} {i b : Nat}, l.Nodup → l[i]? = some b → placeIn l b = i
  | [], _, _, _, h => by simp at h
  | x :: l, 0, b, _, h => by simp at h; subst h; simp [placeIn, List.findIdx_cons]
  | x :: l, i + 1, b, hn, h => by
    have hb : l[i]? = some b := by simpa using h
    have hx : (x == b) = false := by
      rw [List.nodup_cons] at hn
      simp only [beq_eq_false_iff_ne, ne_eq]
      rintro rfl
      exact hn.1 (List.mem_of_getElem? hb)
    unfold placeIn
    rw [List.findIdx_cons, hx]
    simp only [cond_false]
    have := placeIn_of (List.nodup_cons.1 hn).2 hb
    unfold placeIn at this
    rw [this]
theorem boxesAt_get : ∀ {bs : (Boxes m)} {ids : List Nat} {cs : List (List (SV m))}, boxesAt bs ids = some cs → cs.length = ids.length ∧ ∀ (i b : Nat), ids[i]? = some b → ∃ c, cs[i]? = some c ∧ boxAt bs b = some c
  | bs, [], cs, h => by simp [boxesAt] at h; subst h; simp
  | bs, b :: ids, cs, h => by
    simp only [boxesAt] at h
    rw [Option.bind_eq_some_iff] at h
    obtain ⟨c, hc, h⟩ := h
    rw [Option.map_eq_some_iff] at h
    obtain ⟨cs', hcs, rfl⟩ := h
    obtain ⟨h1, h2⟩ := boxesAt_get hcs
    refine ⟨by simp [h1], fun i b' hi => ?_⟩
    cases i with
    | zero => simp at hi; subst hi; exact ⟨c, rfl, hc⟩
    | succ i => simpa using h2 i b' (by simpa using hi)
theorem putBoxes_ne : ∀ (ids : List Nat) (cs : List (List (SV m))) (bs : (Boxes m)) (b : Nat), b ∉ ids → boxAt (putBoxes bs ids cs) b = boxAt bs b
  | [], cs, bs, b, _ => by cases cs <;> rfl
  | c :: ids, [], bs, b, _ => rfl
  | c :: ids, x :: cs, bs, b, h => by
    simp only [List.mem_cons, not_or] at h
    rw [putBoxes, putBoxes_ne ids cs _ b h.2, boxAt_set_ne h.1]
theorem putBoxes_length : ∀ (ids : List Nat) (cs : List (List (SV m))) (bs : (Boxes m)), (putBoxes bs ids cs).length = bs.length
  | [], cs, bs => by cases cs <;> rfl
  | c :: ids, [], bs => rfl
  | c :: ids, x :: cs, bs => by rw [putBoxes, putBoxes_length]; simp
theorem putBoxes_eq : ∀ (ids : List Nat) (cs : List (List (SV m))) (bs : (Boxes m)) (i b : Nat) (c : List (SV m)), ids.Nodup → ids[i]? = some b → cs[i]? = some c → b < bs.length → boxAt (putBoxes bs ids cs) b = some c
  | [], _, _, _, _, _, _, h, _, _ => by simp at h
  | _ :: _, [], _, _, _, _, _, _, h, _ => by simp at h
  | x :: ids, y :: cs, bs, 0, b, c, hn, hi, hc, hb => by
    simp at hi hc
    subst hi hc
    rw [putBoxes, putBoxes_ne ids cs _ _ (List.nodup_cons.1 hn).1, boxAt_set_self hb]
  | x :: ids, y :: cs, bs, i + 1, b, c, hn, hi, hc, hb => by
    rw [putBoxes]
    exact putBoxes_eq ids cs _ i b c (List.nodup_cons.1 hn).2 (by simpa using hi) (by simpa using hc) (by simpa using hb)
theorem renF {w : World} {F : Fr} {bm bm' : Nat → Nat} {al al' : Nat → Bool} {f : Nat → Nat} {b o : Nat} {v : Value} (h : RepF (m := m) w F N bm al (.ptr b o) v) (hb : bm' (f b) = bm b ∧ al' (f b) = true) : RepF (m := m) w F N bm' al' (.ptr (f b) o) v := by
  simp only [RepF] at h ⊢
  exact ⟨by rw [hb.1]; exact h.1, hb.2⟩
theorem renK {w : World} {F : Fr} {bm bm' : Nat → Nat} {al al' : Nat → Bool} {f : Nat → Nat} {g : FuncId} {cs : List (Option (Nat × Nat))} {v : Value} (h : RepF (m := m) w F N bm al (.kfn g cs) v) (hb : ∀ b ∈ kIds cs, bm' (f b) = bm b ∧ al' (f b) = true) :
    RepF (m := m) w F N bm' al' (.kfn g (kRen f cs)) v := by
  obtain ⟨g', o, vs, e, ho, hc, hs, hr⟩ := h
  refine ⟨g', o, vs, e, ho, hc, by simp [kRen, hs], fun j c u hj hu => ?_⟩
  simp only [kRen, List.getElem?_map, Option.map_eq_some_iff] at hj
  obtain ⟨c0, hc0, rfl⟩ := hj
  have := hr j c0 u hc0 hu
  cases c0 with
  | none => exact this
  | some p =>
    obtain ⟨e', ha⟩ := this
    obtain ⟨h1, h2⟩ := hb p.1 (List.mem_flatMap.2 ⟨_, List.mem_of_getElem? hc0, by simp⟩)
    exact (show u = .pointer (some ⟨bm' (f p.1), p.2, none⟩) ∧ al' (f p.1) = true from ⟨by rw [h1]; exact e', h2⟩)
theorem RepS.handed {w : World} {F : Fr} {Ow Ow' : Own} {bm bm' : Nat → Nat} {al al' : Nat → Bool} {loc loc' : Loc} {x : (SV m)} {v : Value} {f : Nat → Nat} (h : RepS P w F N Ow bm al loc x v) (hx : x.handed = true)
    (hb : ∀ b ∈ x.boxIds, bm' (f b) = bm b ∧ al' (f b) = true) (ho : isOwn x = true → ∀ g, Ow g = some loc → Ow' g = some loc') : RepS P w F N Ow' bm' al' loc' (x.ren f) v := by
  cases x with
  | ptr b o =>
    simp only [RepS] at h
    exact (show RepF w F N bm' al' (.ptr (f b) o) v from renF h (hb b (by simp [SV.boxIds])))
  | bsl b z lo n =>
    simp only [RepS] at h
    obtain ⟨h1, h2⟩ := hb b (by simp [SV.boxIds])
    exact (show BslAt bm' al' (f b) z lo n v from ⟨(show BslAt bm al b z lo n v from h).1.imp id fun ⟨cap, e, hc⟩ => ⟨cap, by rw [h1]; exact e, hc⟩, h2⟩)
  | fn g caps =>
    obtain ⟨vs, e, hs, hc⟩ := h
    refine ⟨vs, e, by simpa using hs, fun j c u hj hu => ?_⟩
    simp only [List.getElem?_map, Option.map_eq_some_iff] at hj
    obtain ⟨c', hc', rfl⟩ := hj
    have h0 := hc j c' u hc' hu
    have hmem : c' ∈ caps := List.mem_of_getElem? hc'
    have hok := List.all_eq_true.1 hx c' hmem
    cases c' with
    | ptr b o => exact renF h0 (hb b (List.mem_flatMap.2 ⟨_, hmem, by simp⟩))
    | leaf l => exact h0
    | eptr c e o => exact h0
    | kfn g' cs => exact renK h0 fun b hbb => hb b (List.mem_flatMap.2 ⟨_, hmem, hbb⟩)
    | any => trivial
    | _ => simp at hok
  | own eo es => exact RepO.keeps (Keeps.refl _ _) h fun g hg => ⟨rfl, rfl, ho rfl g hg⟩
  | raw eo es => exact RepO.keeps (Keeps.refl _ _) h fun g hg => ⟨rfl, rfl, ho rfl g hg⟩
  | leaf l => exact h
  | agg cs => exact h
  | nilptr => exact h
  | nilface => exact h
  | any => exact h
  | skip => simp [SV.handed, SV.data] at hx
  | eptr c e o => exact h
  | kfn g' cs =>
    simp only [RepS] at h
    exact (show RepF w F N bm' al' (.kfn g' (kRen f cs)) v from renK h fun b hbb => hb b hbb)
  | tup vs => simp [SV.handed, SV.data] at hx
theorem RepS.flat {w : World} {F : Fr} {Ow Ow' : Own} {bm bm' : Nat → Nat} {al al' : Nat → Bool} {loc loc' : Loc} {x : (SV m)} {v : Value} (h : RepS P w F N Ow bm al loc x v) (hx : x.flatT = true)
    (ho : isOwn x = true → ∀ g, Ow g = some loc → Ow' g = some loc') : RepS P w F N Ow' bm' al' loc' x v := by
  cases x with
  | ptr b o => simp [SV.flatT, SV.flat] at hx
  | fn g caps => simp [SV.flatT, SV.flat] at hx
  | own eo es => exact RepO.keeps (Keeps.refl _ _) h fun g hg => ⟨rfl, rfl, ho rfl g hg⟩
  | raw eo es => exact RepO.keeps (Keeps.refl _ _) h fun g hg => ⟨rfl, rfl, ho rfl g hg⟩
  | leaf l => exact h
  | agg cs => exact h
  | nilptr => exact h
  | nilface => exact h
  | any => exact h
  | skip => exact h
  | eptr c e o => simp [SV.flatT, SV.flat] at hx
  | kfn f cs => simp [SV.flatT, SV.flat] at hx
  | bsl b z lo n => simp [SV.flatT, SV.flat] at hx
  | tup vs =>
    obtain ⟨us, e, hs, hc⟩ := h
    refine ⟨us, e, hs, fun j c u hj hu => ?_⟩
    have h0 := hc j c u hj hu
    have hok := List.all_eq_true.1 hx c (List.mem_of_getElem? hj)
    cases c <;> first | exact h0 | simp [SV.flat] at hok
theorem flat_flatT {x : (SV m)} (h : x.flat = true) : x.flatT = true := by cases x <;> first | rfl | exact h | simp [SV.flat] at h
def isTmp (t : Nat) : Operand → Bool | .tmp u => u == t | _ => false
theorem argAt_of {xs : List Operand} {j t : Nat} (hn : (operandTmps xs).Nodup) (h : xs[j]? = some (.tmp t)) : xs.findIdx? (isTmp t) = some j := by
  induction xs generalizing j with
  | nil => simp at h
  | cons x xs ih =>
    cases j with
    | zero => simp at h; subst h; simp [List.findIdx?_cons, isTmp]
    | succ j =>
      have h' : xs[j]? = some (.tmp t) := by simpa using h
      have hmem : t ∈ operandTmps xs := by
        unfold operandTmps
        exact List.mem_filterMap.2 ⟨_, List.mem_of_getElem? h', rfl⟩
      have hx : isTmp t x = false := by
        cases x with
        | tmp u =>
          simp only [isTmp, beq_eq_false_iff_ne, ne_eq]
          rintro rfl
          unfold operandTmps at hn hmem
          rw [List.filterMap_cons_some (by rfl), List.nodup_cons] at hn
          exact hn.1 hmem
        | _ => rfl
      have hn' : (operandTmps xs).Nodup := by
        unfold operandTmps at hn ⊢
        cases x with
        | tmp u => rw [List.filterMap_cons_some (by rfl), List.nodup_cons] at hn; exact hn.2
        | _ => rwa [List.filterMap_cons_none (by rfl)] at hn
      rw [List.findIdx?_cons, hx, ih hn' h']
      rfl
theorem argAt_none {xs : List Operand} {t : Nat} (h : t ∉ operandTmps xs) : xs.findIdx? (isTmp t) = none := by
  rw [List.findIdx?_eq_none_iff]
  intro x hx
  cases x with
  | tmp u =>
    simp only [isTmp, beq_eq_false_iff_ne, ne_eq]
    rintro rfl
    exact h (List.mem_filterMap.2 ⟨_, hx, rfl⟩)
  | _ => rfl
def toCallee (xs : List Operand) (ids : List Nat) : Loc → Option Loc
  | .tmp t => (xs.findIdx? (isTmp t)).map .tmp
  | .blk b => if b ∈ ids then some (.blk (placeIn ids b)) else none
  | .box b j => if b ∈ ids then some (.box (placeIn ids b) j) else none
def toCaller (dst : Option Tmp) (ids : List Nat) : Loc → Option Loc
  | .tmp 0 => dst.map .tmp
  | .tmp _ => none
  | .blk i => (ids[i]?).map .blk
  | .box i j => (ids[i]?).map fun b => .box b j
theorem setAll_takes (s : (St m)) : ∀ (xs : List Operand) (l : List (SV m)), l.length = s.tmps.length → (setAll l (xs.flatMap (takeE s.eval))).length = s.tmps.length ∧
    ∀ t, (t ∈ operandTmps xs → t < s.tmps.length → (setAll l (xs.flatMap (takeE s.eval)))[t]? = some (s.tmps.getD t .any).drop) ∧ (t ∉ operandTmps xs → (setAll l (xs.flatMap (takeE s.eval)))[t]? = l[t]?)
  | [], l, hl => ⟨by simpa [setAll] using hl, fun t => ⟨by simp [operandTmps], by simp [setAll]⟩⟩
  | x :: xs, l, hl => by
    rw [List.flatMap_cons, setAll_append]
    cases x with
    | tmp u =>
      have hl' : (setAll l (takeE s.eval (.tmp u))).length = s.tmps.length := by simp [setAll, takeE, hl]
      obtain ⟨h1, h2⟩ := setAll_takes s xs _ hl'
      refine ⟨h1, fun t => ⟨fun ht htl => ?_, fun ht => ?_⟩⟩
      · by_cases htx : t ∈ operandTmps xs
        · exact (h2 t).1 htx htl
        · rw [(h2 t).2 htx]
          have : t = u := by
            unfold operandTmps at ht htx
            rw [List.filterMap_cons_some (by rfl), List.mem_cons] at ht
            rcases ht with h | h
            · exact h
            · exact absurd h htx
          subst this
          simp only [setAll, takeE, List.foldl_cons, List.foldl_nil, St.eval]
          have hlt : t < l.length := by rw [hl]; exact htl
          rw [List.getElem?_set_self hlt]
      · unfold operandTmps at ht
        rw [List.filterMap_cons_some (by rfl), List.mem_cons, not_or] at ht
        rw [(h2 t).2 ht.2]
        simp only [setAll, takeE, List.foldl_cons, List.foldl_nil]
        rw [List.getElem?_set_ne (fun e => ht.1 e.symm)]
    | _ =>
      obtain ⟨h1, h2⟩ := setAll_takes s xs l hl
      exact ⟨h1, fun t => h2 t⟩
section
variable {s : (St m)} {a : Act} {w : World} {F : Fr} {Ow : Own} {bm : Nat → Nat} {nt : Nat}
theorem Inv.enter (h : Inv P s a.tmps w F N Ow bm) {xs : List Operand} {caps : List (SV m)} {vs : List Value} {cs : List (List (SV m))} {ta : Bool} (hn : (operandTmps xs).Nodup) (hh : (xs.map (argV ta s.eval) ++ caps).all SV.handed = true)
    (hcaps : vs.length = caps.length ∧ ∀ (j : Nat) (c : (SV m)) (u : Value), caps[j]? = some c → vs[j]? = some u → RepF w F N bm s.al c u) (hcs : boxesAt s.boxes (idsOf (xs.map (argV ta s.eval) ++ caps)) = some cs) (hfl : ∀ c ∈ cs, ∀ x ∈ c, x.flat = true) :
    Inv P { tmps := (xs.map (argV ta s.eval) ++ caps).map (SV.ren (placeIn (idsOf (xs.map (argV ta s.eval) ++ caps)))), boxes := cs.map some } (xs.map a.eval ++ vs).toArray w F N (fun g => (Ow g).bind (toCallee (takenL ta xs) (idsOf (xs.map (argV ta s.eval) ++ caps))))
      (fun i => bm ((idsOf (xs.map (argV ta s.eval) ++ caps)).getD i 0)) := by
  generalize hids : idsOf (xs.map (argV ta s.eval) ++ caps) = ids at *
  have hnd : ids.Nodup := by rw [← hids]; exact idsOf_nodup _
  obtain ⟨hcl, hcg⟩ := boxesAt_get hcs
  have hal : ∀ b ∈ ids, bm (ids.getD (placeIn ids b) 0) = bm b ∧ (boxAt (cs.map some) (placeIn ids b)).isSome = true := by
    intro b hb
    have h1 := placeIn_get hb
    obtain ⟨c, hc, _⟩ := hcg _ _ h1
    refine ⟨by rw [List.getD_eq_getElem?_getD, h1]; rfl, ?_⟩
    unfold boxAt
    rw [List.getD_eq_getElem?_getD, List.getElem?_map, hc]; rfl
  have hmem : ∀ x ∈ xs.map (argV ta s.eval) ++ caps, ∀ b ∈ x.boxIds, b ∈ ids := fun x hx b hb => by rw [← hids]; exact mem_idsOf.2 ⟨x, hx, hb⟩
  refine ⟨by simp [hcaps.1], fun t => ?_, fun i c hc => ?_, h.low, fun g hg => ⟨(h.new g hg).1, by simp [(h.new g hg).2]⟩, fun i c hc => ?_, fun g hz => ⟨by simp [(h.zow g hz).1], (h.zow g hz).2⟩⟩
  · show RepS P w F N _ _ (fun b => (boxAt (cs.map some) b).isSome) (.tmp t) (((xs.map (argV ta s.eval) ++ caps).map (SV.ren (placeIn ids))).getD t .any) _
    rw [List.getD_eq_getElem?_getD, List.getElem?_map, Array.getD_eq_getD_getElem?, List.getElem?_toArray]
    by_cases ht : t < xs.length
    · have e1 : (xs.map (argV ta s.eval) ++ caps)[t]? = some (argV ta s.eval xs[t]) := by rw [List.getElem?_append_left (by simpa using ht)]; simp [ht]
      have e2 : (xs.map a.eval ++ vs)[t]? = some (a.eval xs[t]) := by rw [List.getElem?_append_left (by simpa using ht)]; simp [ht]
      rw [e1, e2]
      simp only [Option.map_some, Option.getD_some]
      have hin : argV ta s.eval xs[t] ∈ xs.map (argV ta s.eval) ++ caps := List.mem_of_getElem? e1
      have hx := h.eval (a := a) rfl xs[t]
      have hok := List.all_eq_true.1 hh _ hin
      cases ta with
      | false =>
        have hxd : RepS P w F N Ow bm s.al (locOf xs[t]) (s.eval xs[t]).drop (a.eval xs[t]) := RepS.drop hx
        exact hxd.handed hok (fun b hb => hal b (hmem _ hin b hb)) (fun ho => by rw [drop_not_own] at ho; simp at ho)
      | true =>
      have hav : ∀ x, argV true s.eval x = s.eval x := fun _ => rfl
      rw [hav] at hok hin ⊢
      cases hxt : xs[t] with
      | tmp u =>
        rw [hxt] at hx hok hin
        refine hx.handed hok (fun b hb => hal b (hmem _ hin b hb)) fun _ g hg => ?_
        simp only [locOf] at hg
        rw [hg]
        simp only [Option.bind_some, toCallee, takenL, argAt_of hn (show xs[t]? = some (.tmp u) by rw [List.getElem?_eq_getElem ht, hxt]), Option.map_some]
      | const c =>
        rw [hxt] at hx hok hin
        cases hce : s.eval (.const c) with
        | own eo es =>
          have hnil : a.eval (.const c) = .slice none 0 0 ∧ es = [] := by
            simp only [St.eval] at hce
            unfold ofConst at hce
            split at hce <;> simp at hce
            obtain ⟨_, rfl⟩ := hce
            exact ⟨rfl, rfl⟩
          obtain ⟨e3, rfl⟩ := hnil
          rw [e3]
          exact RepS.own_nil
        | raw eo es =>
          simp only [St.eval] at hce
          unfold ofConst at hce
          split at hce <;> simp at hce
        | _ =>
          rw [hce] at hx hok hin
          exact hx.handed hok (fun b hb => hal b (hmem _ hin b hb)) (fun ho => by simp [isOwn] at ho)
      | global g =>
        exact RepS.any
      | func f =>
        rw [hxt] at hx hok hin
        exact hx.handed hok (fun b hb => hal b (hmem _ hin b hb)) (fun ho => by simp [St.eval, isOwn] at ho)
    · by_cases ht2 : t - xs.length < caps.length
      · have e1 : (xs.map (argV ta s.eval) ++ caps)[t]? = some caps[t - xs.length] := by rw [List.getElem?_append_right (by simp; omega)]; simp [ht2]
        have e2 : (xs.map a.eval ++ vs)[t]? = some (vs[t - xs.length]'(by rw [hcaps.1]; exact ht2)) := by rw [List.getElem?_append_right (by simp; omega)]; simp [hcaps.1, ht2]
        rw [e1, e2]
        simp only [Option.map_some, Option.getD_some]
        have hin : caps[t - xs.length] ∈ xs.map (argV ta s.eval) ++ caps := List.mem_of_getElem? e1
        have hok := List.all_eq_true.1 hh _ hin
        have h0 := hcaps.2 (t - xs.length) _ _ (List.getElem?_eq_getElem ht2) (List.getElem?_eq_getElem (by rw [hcaps.1]; exact ht2))
        generalize caps[t - xs.length] = c at *
        cases c with
        | own eo es => exact (show False from h0).elim
        | raw eo es => exact (show False from h0).elim
        | fn g cp => exact (show False from h0).elim
        | ptr b o =>
          refine RepS.handed (Ow := Ow) (loc := .blk 0) (bm := bm) (al := s.al) ?_ hok (fun b hb => hal b (hmem _ hin b hb)) (fun ho => by simp [isOwn] at ho)
          simpa only [RepS] using h0
        | leaf l =>
          refine RepS.handed (Ow := Ow) (loc := .blk 0) (bm := bm) (al := s.al) ?_ hok (fun b hb => hal b (hmem _ hin b hb)) (fun ho => by simp [isOwn] at ho)
          simpa only [RepS] using h0
        | agg l =>
          refine RepS.handed (Ow := Ow) (loc := .blk 0) (bm := bm) (al := s.al) ?_ hok (fun b hb => hal b (hmem _ hin b hb)) (fun ho => by simp [isOwn] at ho)
          simpa only [RepS] using h0
        | nilptr =>
          refine RepS.handed (Ow := Ow) (loc := .blk 0) (bm := bm) (al := s.al) ?_ hok (fun b hb => hal b (hmem _ hin b hb)) (fun ho => by simp [isOwn] at ho)
          simpa only [RepS] using h0
        | nilface =>
          refine RepS.handed (Ow := Ow) (loc := .blk 0) (bm := bm) (al := s.al) ?_ hok (fun b hb => hal b (hmem _ hin b hb)) (fun ho => by simp [isOwn] at ho)
          simpa only [RepS] using h0
        | any => exact RepS.any
        | skip => simp [SV.handed, SV.data] at hok
        | kfn f cs =>
          refine RepS.handed (Ow := Ow) (loc := .blk 0) (bm := bm) (al := s.al) ?_ hok (fun b hb => hal b (hmem _ hin b hb)) (fun ho => by simp [isOwn] at ho)
          simpa only [RepS] using h0
        | eptr c e o =>
          refine RepS.handed (Ow := Ow) (loc := .blk 0) (bm := bm) (al := s.al) ?_ hok (fun b hb => hal b (hmem _ hin b hb)) (fun ho => by simp [isOwn] at ho)
          simpa only [RepS] using h0
        | bsl b z lo n =>
          refine RepS.handed (Ow := Ow) (loc := .blk 0) (bm := bm) (al := s.al) ?_ hok (fun b hb => hal b (hmem _ hin b hb)) (fun ho => by simp [isOwn] at ho)
          simpa only [RepS] using h0
        | tup l => simp [SV.handed, SV.data] at hok
      · have e1 : (xs.map (argV ta s.eval) ++ caps)[t]? = none := List.getElem?_eq_none (by simp; omega)
        rw [e1]
        exact RepS.any
  · have hci : cs[i]? = some c := by
      have hc' : boxAt (cs.map some) i = some c := hc
      unfold boxAt at hc'
      rw [List.getD_eq_getElem?_getD, List.getElem?_map] at hc'
      cases hx : cs[i]? with
      | none => rw [hx] at hc'; simp at hc'
      | some y => rw [hx] at hc'; simpa using hc'
    have hilt : i < ids.length := by rw [← hcl]; exact (List.getElem?_eq_some_iff.1 hci).1
    obtain ⟨c', hc1, hc2⟩ := hcg i ids[i] (List.getElem?_eq_getElem hilt)
    rw [hci] at hc1
    cases hc1
    rcases h.box _ _ hc2 with g0 | ⟨cur, e, g1, g2, g3, g4, g5⟩
    · exact .inl g0
    have hg : ids.getD i 0 = ids[i] := by rw [List.getD_eq_getElem?_getD, List.getElem?_eq_getElem hilt]; rfl
    have hpl : placeIn ids ids[i] = i := placeIn_of hnd (List.getElem?_eq_getElem hilt)
    have hin : ids[i] ∈ ids := List.getElem_mem hilt
    refine .inr ⟨cur, e, by rw [hg]; exact g1, g2, by rw [hg]; exact g3, ?_, fun j x u hx hu => ?_⟩
    · show (Ow (bm (ids.getD i 0))).bind _ = _
      rw [hg, g4]
      simp [toCallee, hin, hpl]
    · refine (g5 j x u hx hu).flat (flat_flatT (hfl c (List.mem_of_getElem? hci) x (List.mem_of_getElem? hx))) fun _ g hg' => ?_
      rw [hg']
      simp [toCallee, hin, hpl]
  · have hci : cs[i]? = some c := by
      have hc' : boxAt (cs.map some) i = some c := hc
      unfold boxAt at hc'
      rw [List.getD_eq_getElem?_getD, List.getElem?_map] at hc'
      cases hx : cs[i]? with
      | none => rw [hx] at hc'; simp at hc'
      | some y => rw [hx] at hc'; simpa using hc'
    have hilt : i < ids.length := by rw [← hcl]; exact (List.getElem?_eq_some_iff.1 hci).1
    obtain ⟨c', hc1, hc2⟩ := hcg i ids[i] (List.getElem?_eq_getElem hilt)
    have hg : ids.getD i 0 = ids[i] := by rw [List.getD_eq_getElem?_getD, List.getElem?_eq_getElem hilt]; rfl
    show N.n ≤ bm (ids.getD i 0)
    rw [hg]
    exact h.bmn _ _ hc2
end
end Go.Vs
end
section
namespace Go.Vs
variable {m : Bool}
variable {P : Program} {N : Env}
section
variable {s : (St m)} {a : Act} {w : World} {F : Fr} {Ow : Own} {bm : Nat → Nat} {nt : Nat}
theorem flatT_ren {f : Nat → Nat} {x : SV m} (h : x.flatT = true) : x.ren f = x := by
  cases x <;> first | rfl | simp [SV.flatT, SV.flat] at h
theorem backOk_cases {n : Nat} {x : SV m} (h : x.backOk n = true) : (∃ b z lo k, x = .bsl b z lo k ∧ b < n) ∨ x.flatT = true := by
  cases x
  case bsl b z lo k => exact .inl ⟨b, z, lo, k, rfl, by simpa only [SV.backOk, decide_eq_true_eq] using h⟩
  all_goals exact .inr h
theorem RepS.back {w : World} {F : Fr} {Ow Ow' : Own} {bm bm' : Nat → Nat} {al al' : Nat → Bool} {loc loc' : Loc} {x : (SV m)} {v : Value} {f : Nat → Nat} {n : Nat} (h : RepS P w F N Ow bm al loc x v) (hx : x.backOk n = true)
    (hb : ∀ b, b < n → bm' (f b) = bm b ∧ al' (f b) = true) (ho : isOwn x = true → ∀ g, Ow g = some loc → Ow' g = some loc') : RepS P w F N Ow' bm' al' loc' (x.ren f) v := by
  rcases backOk_cases hx with ⟨b, z, lo, k, rfl, hlt⟩ | hx'
  · exact h.handed rfl (fun c hc => by
      obtain rfl : c = b := by simpa [SV.boxIds] using hc
      exact hb c hlt) ho
  · rw [flatT_ren hx']
    exact h.flat hx' ho
theorem Inv.back (h : Inv P s a.tmps w F N Ow bm) {xs : List Operand} {ids : List Nat} {r : (SV m) × List (List (SV m))} {v : Value} {w' : World} {F' : Fr} {OwC : Own} {dst : Option Tmp} (hnd : ids.Nodup) (hex : ∀ b ∈ ids, (boxAt s.boxes b).isSome = true)
    (hI : Inv P { tmps := [r.1], boxes := r.2.map some } #[v] w' F' N OwC (fun i => bm (ids.getD i 0))) (hfar : Far N w F (fun g => (Ow g).bind (toCallee xs ids)) w' F' OwC) (hlen : r.2.length = ids.length)
    (hf1 : r.1.backOk ids.length = true) (hf2 : ∀ cs ∈ r.2, ∀ c ∈ cs, c.flat = true) :
    ∃ Ow', Inv P (({ (s.takes xs) with boxes := putBoxes s.boxes ids r.2 } : (St m)).put dst (r.1.ren (ids.getD · 0))) (a.put dst v).tmps w' F' N Ow' bm ∧ Far N w F Ow w' F' Ow' := by
  let Ow' : Own := fun g => match OwC g with
    | some l => toCaller dst ids l
    | none => if (Ow g).bind (toCallee xs ids) = none then Ow g else none
  have hlt : ∀ k loc, Ow k = some loc → k < w.heap.size := by
    intro k loc hk'
    rcases Nat.lt_or_ge k w.heap.size with h' | h'
    · exact h'
    · rw [(h.new k h').2] at hk'; simp at hk'
  have keep : ∀ g loc, Ow g = some loc → toCallee xs ids loc = none → w'.heap[g]? = w.heap[g]? ∧ F' g = F g ∧ Ow' g = some loc := by
    intro g loc hg hn
    have hnone : (Ow g).bind (toCallee xs ids) = none := by rw [hg]; exact hn
    obtain ⟨h1, h2, h3⟩ := hfar.old g (hlt g loc hg) hnone
    have hZ : N.Z g = false := by
      cases hz : N.Z g with
      | false => rfl
      | true => rw [(h.zow g hz).1] at hg; simp at hg
    refine ⟨h1 hZ, h2, ?_⟩
    show (match OwC g with | some l => toCaller dst ids l | none => if (Ow g).bind (toCallee xs ids) = none then Ow g else none) = _
    rw [h3]
    simp [hg, hn]
  have hal : ∀ b, s.al b = true → (boxAt (putBoxes s.boxes ids r.2) b).isSome = true := by
    intro b hb
    by_cases hin : b ∈ ids
    · have h1 := placeIn_get hin
      have hi : placeIn ids b < ids.length := (List.getElem?_eq_some_iff.1 h1).1
      obtain ⟨c, hc⟩ := Option.isSome_iff_exists.1 hb
      rw [putBoxes_eq ids r.2 s.boxes _ b _ hnd h1 (List.getElem?_eq_getElem (by rw [hlen]; exact hi)) (boxAt_lt hc)]
      rfl
    · rw [putBoxes_ne ids r.2 s.boxes b hin]; exact hb
  have hp : ∀ b, s.al b = true → bm b = bm b ∧ (boxAt (putBoxes s.boxes ids r.2) b).isSome = true := fun b hb => ⟨rfl, hal b hb⟩
  obtain ⟨htl, htt⟩ := setAll_takes s xs s.tmps rfl
  have hOC : ∀ g l, OwC g = some l → Ow' g = toCaller dst ids l := by
    intro g l hg
    show (match OwC g with | some l => toCaller dst ids l | none => if (Ow g).bind (toCallee xs ids) = none then Ow g else none) = _
    rw [hg]
  have hfarO : Far N w F Ow w' F' Ow' := by
    refine ⟨hfar.os, hfar.tape, hfar.output, hfar.size, hfar.keeps, fun g hg ho => ?_⟩
    obtain ⟨h1, h2, h3⟩ := hfar.old g hg (by rw [ho]; rfl)
    refine ⟨h1, h2, ?_⟩
    show (match OwC g with | some l => toCaller dst ids l | none => if (Ow g).bind (toCallee xs ids) = none then Ow g else none) = none
    rw [h3]
    simp [ho]
  have hbase : Inv P ({ (s.takes xs) with boxes := putBoxes s.boxes ids r.2 } : (St m)) a.tmps w' F' N Ow' bm := by
    refine ⟨by rw [← h.len]; exact htl, fun t => ?_, fun b cs hb => ?_, h.low.to hfar.keeps hfar.size, fun g hg => ?_, fun b cs hb => ?_, fun g hz => ⟨?_, (hI.zow g hz).2⟩⟩
    · show RepS P w' F' N Ow' bm (fun b => (boxAt (putBoxes s.boxes ids r.2) b).isSome) (.tmp t) ((setAll s.tmps (xs.flatMap (takeE s.eval))).getD t .any) _
      rw [List.getD_eq_getElem?_getD]
      by_cases ht : t ∈ operandTmps xs
      · by_cases hl : t < s.tmps.length
        · rw [(htt t).1 ht hl]
          simp only [Option.getD_some]
          exact RepS.to hfar.keeps (RepS.drop (Ow' := Ow) (loc' := .tmp t) (h.slot t)) hp fun ho => by rw [drop_not_own] at ho; simp at ho
        · rw [List.getElem?_eq_none (by rw [htl]; omega)]
          exact RepS.any
      · rw [(htt t).2 ht, ← List.getD_eq_getElem?_getD]
        exact (h.slot t).to hfar.keeps hp fun _ g hg => keep g _ hg (by simp [toCallee, argAt_none ht])
    · have hb' : boxAt (putBoxes s.boxes ids r.2) b = some cs := hb
      by_cases hin : b ∈ ids
      · have h1 := placeIn_get hin
        have hi : placeIn ids b < ids.length := (List.getElem?_eq_some_iff.1 h1).1
        have hi2 : placeIn ids b < r.2.length := by rw [hlen]; exact hi
        obtain ⟨c0, hc0⟩ := Option.isSome_iff_exists.1 (hex b hin)
        rw [putBoxes_eq ids r.2 s.boxes _ b _ hnd h1 (List.getElem?_eq_getElem hi2) (boxAt_lt hc0)] at hb'
        cases hb'
        rcases hI.box (placeIn ids b) r.2[placeIn ids b] (by
          show boxAt (r.2.map some) _ = _
          unfold boxAt
          rw [List.getD_eq_getElem?_getD, List.getElem?_map, List.getElem?_eq_getElem hi2]; rfl) with g0 | ⟨cur, e, g1, g2, g3, g4, g5⟩
        · exact .inl g0
        have hgd : ids.getD (placeIn ids b) 0 = b := by rw [List.getD_eq_getElem?_getD, h1]; rfl
        rw [hgd] at g1 g3 g4
        refine .inr ⟨cur, e, g1, g2, g3, ?_, fun j c u hc hu => ?_⟩
        · rw [hOC _ _ g4]; simp [toCaller, h1]
        · refine (g5 j c u hc hu).flat (flat_flatT (hf2 _ (List.getElem_mem hi2) c (List.mem_of_getElem? hc))) fun _ g hg => ?_
          rw [hOC _ _ hg]; simp [toCaller, h1]
      · rw [putBoxes_ne ids r.2 s.boxes b hin] at hb'
        rcases h.box b cs hb' with g0 | ⟨cur, e, g1, g2, g3, g4, g5⟩
        · exact .inl g0
        obtain ⟨k1, k2, k3⟩ := keep (bm b) _ g4 (by simp [toCallee, hin])
        exact .inr ⟨cur, e, k1.trans g1, g2, k2.trans g3, k3, fun j c u hc hu => (g5 j c u hc hu).to hfar.keeps hp fun _ g hg => keep g _ hg (by simp [toCallee, hin])⟩
    · obtain ⟨n1, n2⟩ := hI.new g hg
      refine ⟨n1, ?_⟩
      show (match OwC g with | some l => toCaller dst ids l | none => if (Ow g).bind (toCallee xs ids) = none then Ow g else none) = none
      rw [n2]
      have := (h.new g (Nat.le_trans hfar.size hg)).2
      simp [this]
    · have hb' : (boxAt (putBoxes s.boxes ids r.2) b) = some cs := hb
      by_cases hin : b ∈ ids
      · obtain ⟨c0, hc0⟩ := Option.isSome_iff_exists.1 (hex b hin)
        exact h.bmn b c0 hc0
      · rw [putBoxes_ne ids r.2 s.boxes b hin] at hb'
        exact h.bmn b cs hb'
    · show (match OwC g with | some l => toCaller dst ids l | none => if (Ow g).bind (toCallee xs ids) = none then Ow g else none) = none
      rw [(hI.zow g hz).1]
      have := (h.zow g hz).1
      simp [this]
  refine ⟨Ow', hbase.put (a := a) fun d hd => ?_, hfarO⟩
  have h0 := hI.slot 0
  simp only [List.getD_cons_zero] at h0
  have h0' : RepS P w' F' N OwC (fun i => bm (ids.getD i 0)) (fun b => (boxAt (r.2.map some) b).isSome) (.tmp 0) r.1 v := h0
  refine h0'.back hf1 (fun b hb => ⟨rfl, ?_⟩) fun _ g hg => by rw [hOC _ _ hg]; simp [toCaller, hd]
  have hbm : ids.getD b 0 ∈ ids := by rw [List.getD_eq_getElem?_getD, List.getElem?_eq_getElem hb]; exact List.getElem_mem hb
  exact hal _ (hex _ hbm)
theorem kRen_nil {f : Nat → Nat} {cs : List (Option (Nat × Nat))} (h : kIds cs = []) : kRen f cs = cs := by
  refine (List.map_congr_left (g := id) fun c hc => ?_).trans (List.map_id cs)
  cases c with
  | none => rfl
  | some p =>
    have : p.1 ∈ kIds cs := List.mem_flatMap.2 ⟨_, hc, by simp⟩
    rw [h] at this
    simp at this
theorem ren_nil {f : Nat → Nat} {x : (SV m)} (h : x.boxIds = []) : x.ren f = x := by
  cases x with
  | ptr b o => simp [SV.boxIds] at h
  | bsl b z lo n => simp [SV.boxIds] at h
  | fn g caps =>
    simp only [SV.ren]
    congr 1
    refine (List.map_congr_left (g := id) fun c hc => ?_).trans (List.map_id caps)
    cases c with
    | ptr b o =>
      have : b ∈ SV.boxIds (.fn g caps) := List.mem_flatMap.2 ⟨_, hc, by simp⟩
      rw [h] at this
      simp at this
    | kfn g' cs =>
      have hk : kIds cs = [] := by
        rw [List.eq_nil_iff_forall_not_mem]
        intro b hb
        have : b ∈ SV.boxIds (.fn g caps) := List.mem_flatMap.2 ⟨_, hc, hb⟩
        rw [h] at this
        simp at this
      show SV.kfn g' (kRen f cs) = SV.kfn g' cs
      rw [kRen_nil hk]
    | _ => rfl
  | kfn g cs =>
    show SV.kfn g (kRen f cs) = SV.kfn g cs
    rw [kRen_nil h]
  | _ => rfl
theorem handed_ren {f : Nat → Nat} {args : List (SV m)} (h : args.all SV.handed = true) : (args.map (SV.ren f)).all SV.handed = true := by
  rw [List.all_map, List.all_eq_true] at *
  intro x hx
  have hok := h x hx
  cases x with
  | fn g caps =>
    simp only [Function.comp, SV.ren, SV.handed, List.all_map]
    rw [List.all_eq_true]
    intro c hc
    have := List.all_eq_true.1 hok c hc
    cases c <;> first | rfl | exact this
  | _ => exact hok
theorem callE_eq {D : (Oracle m)} {bs : (Boxes m)} {pu : Bool} {f : FuncId} {args : List (SV m)} {q : (SV m) × Option (Boxes m)} (h : callE D bs pu f args = some q) :
    args.all SV.handed = true ∧ ∃ cs r, boxesAt bs (idsOf args) = some cs ∧ (∀ c ∈ cs, ∀ x ∈ c, x.flat = true) ∧ D f (args.map (SV.ren (placeIn (idsOf args)))) cs = some r ∧ (q.1 = r.1.ren ((idsOf args).getD · 0) ∨ (q.1 = r.1 ∧ cs = [])) ∧ q.2.getD bs = putBoxes bs (idsOf args) r.2 := by
  unfold callE at h
  obtain ⟨h1, h2⟩ := guarded_eq h
  refine ⟨h1, ?_⟩
  split at h2
  · split at h2
    · rename_i hids
      rw [Option.map_eq_some_iff] at h2
      obtain ⟨r, hr, rfl⟩ := h2
      have hmap : args.map (SV.ren (placeIn (idsOf args))) = args := by
        have : ∀ x ∈ args, x.ren (placeIn (idsOf args)) = x := by
          intro x hx
          refine ren_nil ?_
          cases hb : x.boxIds with
          | nil => rfl
          | cons b l =>
            have : b ∈ idsOf args := mem_idsOf.2 ⟨x, hx, by rw [hb]; simp⟩
            rw [hids] at this
            simp at this
        calc args.map _ = args.map id := List.map_congr_left (fun x hx => by simpa using this x hx)
          _ = args := List.map_id args
      refine ⟨[], r, by rw [hids]; rfl, by simp, by rw [hmap]; exact hr, .inr ⟨rfl, rfl⟩, ?_⟩
      rw [hids]
      simp only [Option.getD_none]
      cases r.2 <;> rfl
    · simp at h2
  · rw [Option.bind_eq_some_iff] at h2
    obtain ⟨cs, hcs, h3⟩ := h2
    obtain ⟨h4, h5⟩ := guarded_eq h3
    rw [Option.map_eq_some_iff] at h5
    obtain ⟨r, hr, rfl⟩ := h5
    refine ⟨cs, r, hcs, fun c hc x hx => ?_, hr, .inl rfl, rfl⟩
    exact List.all_eq_true.1 (List.all_eq_true.1 h4 c hc) x hx
theorem sound_call {D : (Oracle m)} (hD : DSound P N D) (h : Inv P s a.tmps w F N Ow bm) {o : Oper} {mv : Bool} {c : Call} {g : Operand} {e : (Eff m)} {pu ta : Bool} (ho : o.op = .call c) (hc : c.callee = .value g)
    (he : effO P D nt mv pu ta o s.eval s.boxes = some e) {next : Act → World → Prop} {Q : Exit → Act → World → Prop} (hk : ∀ a' w', Step P N nt (e.app s) a w F Ow bm a' w' → next a' w') : o.wp P a w next Q := by
  simp only [effO, ho, hc] at he
  split at he
  · rename_i f caps hge
    obtain ⟨hnd, he'⟩ := guarded_eq he
    clear he
    rw [Option.map_eq_some_iff] at he'
    obtain ⟨q, hq, rfl⟩ := he'
    have hnd' := of_decide_eq_true hnd
    obtain ⟨hh, cs, r, hcs, hfl, hr, hq1, hq2⟩ := callE_eq hq
    have hgv := h.eval (a := a) rfl g
    rw [hge] at hgv
    obtain ⟨vs, hv, hvs, hcap⟩ := hgv
    obtain ⟨hrl, hf1, hf2, ⟨fn, hfn, hname, hbody⟩, hcalls⟩ := hD f _ _ _ hr (handed_ren hh) hfl
    have hent := h.enter (xs := c.args.toList) (caps := caps) (vs := vs.toList) hnd' hh ⟨by simpa using hvs, fun j c u a b => hcap j c u a (by simpa using b)⟩ hcs hfl
    have hC := hcalls w F _ _ _ hent
    have hlen : cs.length = (idsOf (c.args.toList.map (argV ta s.eval) ++ caps)).length := (boxesAt_get hcs).1
    have hrun : (execOp a.eval o).run P w = .ok (.enter f (c.args.toList.map a.eval ++ vs.toList).toArray) w := by
      have e1 : (c.args.toList.map a.eval ++ vs.toList).toArray = c.args.map a.eval ++ vs := by
        apply Array.ext'
        simp
      rw [e1]
      have hn1 : ¬ fn.name = "runtime.NumGoroutine" := by simpa using hname
      have hn2 : ¬ fn.body = none := by intro e; rw [e] at hbody; simp at hbody
      simp [execOp, ho, resolve, hc, hv, Deferred.ofValue, invoke, callFunc, hfn, hn1, hn2]
    unfold Oper.wp
    rw [hrun, Oper.upon_enter]
    refine hC.mono ?_
    rintro ed w' ⟨v, F', OwC, rfl, hI, hfar⟩
    obtain ⟨Ow', k1, k2⟩ := h.back (dst := o.dst) (idsOf_nodup _) (fun b hb => by
      obtain ⟨i, hi⟩ := List.getElem?_of_mem hb
      obtain ⟨_, _, hx⟩ := (boxesAt_get hcs).2 i b hi
      rw [hx]; rfl) hI hfar (by rw [hrl, hlen]) (by rw [← hlen]; exact hf1) hf2
    replace hq1 : q.1 = r.1.ren ((idsOf (c.args.toList.map (argV ta s.eval) ++ caps)).getD · 0) := by
      rcases hq1 with hq1 | ⟨hq1, hcs0⟩
      · exact hq1
      · rw [hq1]
        rw [hcs0] at hf1
        refine (flatT_ren ?_).symm
        rcases backOk_cases hf1 with ⟨b, z, lo, k, _, hlt⟩ | hx'
        · simp at hlt
        · exact hx'
    refine hk _ _ ⟨F', Ow', bm, ?_, k2, fun _ _ => rfl, put_defers _ _⟩
    have : ((⟨(takenL ta c.args.toList).flatMap (takeE s.eval) ++ dstE o.dst q.1, q.2⟩ : (Eff m)).app s) = ({ (s.takes (takenL ta c.args.toList)) with boxes := putBoxes s.boxes (idsOf (c.args.toList.map (argV ta s.eval) ++ caps)) r.2 } : (St m)).put o.dst (r.1.ren ((idsOf (c.args.toList.map (argV ta s.eval) ++ caps)).getD · 0)) := by
      rw [put_eq, hq1]
      simp only [Eff.app, St.takes, setAll_append, hq2]
    rw [this]
    exact k1
  · simp at he
end
end Go.Vs
end
section
namespace Go.Vs
variable {m : Bool}
variable {P : Program} {N : Env}
section
variable {s : (St m)} {a : Act} {w : World} {F : Fr} {Ow : Own} {bm : Nat → Nat} {nt : Nat}
theorem onBool_eq {β : Type} {v : (SV m)} {k : Bool → Option β} {y : β} (h : onBool v k = some y) : ∃ b, v = .leaf (.bool b) ∧ k b = some y := by
  unfold onBool at h
  split at h
  · exact ⟨_, rfl, h⟩
  · simp at h
theorem branch_eq {β : Type} (b : Bool) (x y : Option β) : branch b x y = if b then x else y := by cases b <;> rfl
theorem fieldT_eq {t : TypeId} {f : Nat} {p : Nat × TypeId} (h : fieldT P t f = some p) : ∃ fs fld, P.underlying t = some (.struct fs) ∧ fs[f]? = some fld ∧ p = (fld.offset, fld.type) := by
  unfold fieldT at h
  split at h
  · rename_i fs hu
    rw [Option.map_eq_some_iff] at h
    obtain ⟨fld, hf, rfl⟩ := h
    exact ⟨fs, fld, hu, hf, rfl⟩
  · simp at h
theorem fieldAddr_run {t : TypeId} {x v : (SV m)} {f : Nat} {u : Value} {loc : Loc} (h : fieldAddrV P t x f = some v) (hx : RepS P w F N Ow bm s.al loc x u) :
    ∃ z, (Instr.fieldAt t u f).run P w = .ok z w ∧ ∀ loc', RepS P w F N Ow bm s.al loc' v z := by
  unfold fieldAddrV at h
  rw [Option.bind_eq_some_iff] at h
  obtain ⟨p, hp, h⟩ := h
  obtain ⟨fs, fld, hu, hf, rfl⟩ := fieldT_eq hp
  rw [Option.bind_eq_some_iff] at h
  obtain ⟨n, hn, h⟩ := h
  obtain ⟨d, i, hd, hi, rfl⟩ := sizeT_eq hn
  split at h
  · simp at h
  · rename_i hnz
    have hrun : ∀ g q, (Instr.fieldAt t (.pointer (some ⟨g, q, none⟩)) f).run P w = .ok (.pointer (some ⟨g, q + fld.offset, none⟩)) w := by
      intro g q
      simp [Instr.fieldAt, run_underlying hu, hf, Instr.sureAddr, fieldPlace, sizeOf_run hi, hnz, addr_add]
    split at h
    · rename_i b q
      simp only [Option.some.injEq] at h; subst h
      have hx' : u = .pointer (some ⟨bm b, q, none⟩) ∧ s.al b = true := by simpa only [RepS, RepF] using hx
      obtain ⟨rfl, hal⟩ := hx'
      exact ⟨_, hrun _ _, fun loc' => by simp only [RepS, RepF]; exact ⟨trivial, hal⟩⟩
    · rename_i fc el q
      simp only [Option.some.injEq] at h; subst h
      have hx' : ∃ g p vals, u = .pointer (some ⟨g, p + q, none⟩) ∧ p + el.length ≤ F g ∧ (fc.At N g ∧ (N.Z g = true → ∀ l ∈ el, l.soft = true)) ∧ RepR w F N el vals ∧ ∀ (j : Nat) (u : Value), vals[j]? = some u → w.cell? ⟨g, p + j, none⟩ = some u := by simpa only [RepS, RepF] using hx
      obtain ⟨g, p, vals, rfl, h1, h2, h3⟩ := hx'
      exact ⟨_, hrun _ _, fun loc' => by simp only [RepS, RepF]; exact ⟨g, p, vals, by rw [Nat.add_assoc], h1, h2, h3⟩⟩
    · simp at h
theorem unV_run {op : UnOp} {x v : (SV m)} {u : Value} (h : unV op x = some v) (hx : ∀ l, x = .leaf l → RepL w F N l u) : ∃ z, (Op.unary op u).run P w = .ok z w ∧ ∃ l, v = .leaf l ∧ RepL w F N l z := by
  unfold unV at h
  split at h
  · simp only [Option.some.injEq] at h; subst h
    cases repL_bool (hx _ rfl)
    exact ⟨_, rfl, _, rfl, .bool _⟩
  · simp only [Option.some.injEq] at h; subst h
    cases repL_int (hx _ rfl)
    exact ⟨_, rfl, _, rfl, .int _ _⟩
  · simp at h
theorem Inv.storeRow {tmps : Array Value} (h : Inv P s tmps w F N Ow bm) {b : Nat} {cs : List (SV m)} {cur : Array Value} {et : TypeId} (hb : boxAt s.boxes b = some cs) (hne : cs ≠ []) (g1 : w.heap[bm b]? = some (.cells cur et (0, 0))) (g2 : cs.length ≤ cur.size)
    (g5 : ∀ (j : Nat) (c : SV m) (u : Value), cs[j]? = some c → cur[j]? = some u → RepS P w F N Ow bm s.al (.box b j) c u) {p : Nat} {nsv : List (SV m)} {news : List Value} (hlen : news.length = nsv.length) (hle : p + nsv.length ≤ cs.length)
    (hr : ∀ (j : Nat) (c : SV m) (u : Value), nsv[j]? = some c → news[j]? = some u → RepS P w F N Ow bm s.al (.box b (p + j)) c u) :
    Inv P { s with boxes := s.boxes.set b (some (cs.take p ++ nsv ++ cs.drop (p + nsv.length))) } tmps (w.setRow (bm b) (cur.toList.take p ++ news ++ cur.toList.drop (p + nsv.length)).toArray) F N Ow bm ∧
      Far N w F Ow (w.setRow (bm b) (cur.toList.take p ++ news ++ cur.toList.drop (p + nsv.length)).toArray) F Ow := by
  have hcl2 := Array.length_toList (xs := cur)
  refine h.setBox (b := b) (cs := cs) (cs' := cs.take p ++ nsv ++ cs.drop (p + nsv.length)) (cur' := (cur.toList.take p ++ news ++ cur.toList.drop (p + nsv.length)).toArray)
    (w' := w.setRow (bm b) (cur.toList.take p ++ news ++ cur.toList.drop (p + nsv.length)).toArray) hb hne g1
    (by simp only [List.size_toArray, List.length_append, List.length_take, List.length_drop, hcl2]; omega) (by simp only [List.size_toArray, List.length_append, List.length_take, List.length_drop, hcl2]; omega) (fun k hk => setRow_other w _ k _ hk) (setRow_heap w _ cur _ et _ g1) (by simp) rfl rfl rfl
    (fun j c u hj hu => ?_)
  have hj0 : j < cs.length := by
    have := (List.getElem?_eq_some_iff.1 hj).1
    simp only [List.length_append, List.length_take, List.length_drop] at this
    omega
  rw [List.append_assoc] at hj
  have hu' : (cur.toList.take p ++ (news ++ cur.toList.drop (p + nsv.length)))[j]? = some u := by simpa using hu
  by_cases hjp : j < p
  · rw [List.getElem?_append_left (by rw [List.length_take]; omega), List.getElem?_take, if_pos hjp] at hj
    rw [List.getElem?_append_left (by rw [List.length_take]; omega), List.getElem?_take, if_pos hjp] at hu'
    exact g5 j c u hj (by simpa using hu')
  · rw [List.getElem?_append_right (by rw [List.length_take]; omega), List.length_take, Nat.min_eq_left (by omega)] at hj
    rw [List.getElem?_append_right (by rw [List.length_take]; omega), List.length_take, Nat.min_eq_left (by omega)] at hu'
    by_cases hjn : j - p < nsv.length
    · rw [List.getElem?_append_left (by omega)] at hj
      rw [List.getElem?_append_left (by omega)] at hu'
      have := hr (j - p) c u hj hu'
      rwa [show p + (j - p) = j by omega] at this
    · rw [List.getElem?_append_right (by omega), List.getElem?_drop] at hj
      rw [List.getElem?_append_right (by omega), List.getElem?_drop, hlen] at hu'
      rw [show p + nsv.length + (j - p - nsv.length) = j by omega] at hj
      rw [show p + nsv.length + (j - p - nsv.length) = j by omega] at hu'
      exact g5 j c u hj (by simpa using hu')
theorem sound_clear (h : Inv P s a.tmps w F N Ow bm) {o : Oper} {mv : Bool} {c : Call} {x : Operand} {e : (Eff m)} {D : (Oracle m)} {pu ta : Bool} (ho : o.op = .call c) (hc : c.callee = .builtin .clear) (hargs : c.args.toList = [x])
    (he : effO P D nt mv pu ta o s.eval s.boxes = some e) {next : Act → World → Prop} {Q : Exit → Act → World → Prop} (hk : ∀ a' w', Step P N nt (e.app s) a w F Ow bm a' w' → next a' w') : o.wp P a w next Q := by
  simp only [effO, ho, hc, hargs] at he
  have hargs' : c.args = #[x] := by rw [← hargs]
  split at he
  · rename_i b z lo n hxe
    rw [Option.bind_eq_some_iff] at he
    obtain ⟨cs, hb, he⟩ := he
    rw [Option.map_eq_some_iff] at he
    obtain ⟨cs', hcs', rfl⟩ := he
    unfold clearV at hcs'
    rw [Option.bind_eq_some_iff] at hcs'
    obtain ⟨t, ht, hcs'⟩ := hcs'
    rw [Option.bind_eq_some_iff] at hcs'
    obtain ⟨et, het, hcs'⟩ := hcs'
    rw [Option.bind_eq_some_iff] at hcs'
    obtain ⟨ze, hze, hcs'⟩ := hcs'
    split at hcs'
    · rename_i hcnd
      obtain ⟨⟨rfl, hz0⟩, hle⟩ := hcnd
      simp only [Option.some.injEq] at hcs'
      subst hcs'
      have hx := (h.eval (a := a) rfl x).bslOf b ze.length lo n (by rw [hxe]; rfl)
      obtain ⟨A, cap, hv, hcap, hA⟩ := hx.len
      have htu := elemT_eq het
      have happ : ∀ bs : Boxes m, ((⟨dstE o.dst .any, some bs⟩ : (Eff m)).app s) = ({ s with boxes := bs } : St m).put o.dst .any := fun bs => by rw [put_eq]; rfl
      rw [happ] at hk
      by_cases hn : n = 0
      · subst hn
        have hrun : (execOp a.eval o).run P w = .ok (.value (.tuple #[])) w := by
          cases A <;> simp [execOp, ho, resolve, hc, invoke, builtin, hargs', hv, Builtin.clear_, ht, run_underlying htu]
        unfold Oper.wp
        rw [hrun]
        refine hk _ _ ⟨F, Ow, bm, ?_, Far.refl _ _ _, fun _ _ => rfl, put_defers _ _⟩
        have hsame : s.boxes.set b (some (cs.take (lo * ze.length) ++ (List.replicate 0 ze).flatten.map .leaf ++ cs.drop ((lo + 0) * ze.length))) = s.boxes := by
          apply List.ext_getElem?
          intro k
          by_cases hk : k = b
          · subst hk
            have hlt := boxAt_lt hb
            rw [List.getElem?_set_self hlt]
            unfold boxAt at hb
            rw [List.getD_eq_getElem?_getD, List.getElem?_eq_getElem hlt] at hb
            rw [List.getElem?_eq_getElem hlt]
            simp at hb
            simp [hb]
          · rw [List.getElem?_set_ne (fun e => hk e.symm)]
        rw [hsame]
        exact Inv.put (a := a) h fun d _ => RepS.any
      · obtain rfl := hA (by omega)
        have hcl : (lo + n) * ze.length = lo * ze.length + n * ze.length := Nat.add_mul _ _ _
        have hnz : 0 < n * ze.length := Nat.mul_pos (by omega) hz0
        have hne : cs ≠ [] := by rintro rfl; simp at hle; omega
        obtain ⟨cur, et2, g1, g2, g3, g4, g5⟩ := (h.box b cs hb).resolve_left hne
        obtain ⟨inf, zv, hinf, hzv, hlv⟩ := zeroLeaves_eq hze
        have hrz := leavesOf_rep w F (N := N) _ _ hlv
        have hzs : zv.cells.size = ze.length := by have := hrz.1; simpa using this
        have hfl : ((List.replicate n ze).flatten.map (SV.leaf (m := m))).length = n * ze.length := by simp
        have hzc : (Builtin.zeroCells zv.cells n).toList.length = n * ze.length := by simp [Builtin.zeroCells, hzs]
        have hget : ∀ (j : Nat) (u : Value), (Builtin.zeroCells zv.cells n).toList[j]? = some u → j < n * ze.length ∧ zv.cells.toList[j % ze.length]? = some u := by
          intro j u hu
          have hj : j < n * ze.length := by rw [← hzc]; exact (List.getElem?_eq_some_iff.1 hu).1
          refine ⟨hj, ?_⟩
          have hjm : j % ze.length < zv.cells.size := by rw [hzs]; exact Nat.mod_lt _ hz0
          have hu' : u = zv.cells[j % zv.cells.size]! := by simpa [Builtin.zeroCells, hzs, hj] using hu.symm
          rw [hzs] at hu'
          subst hu'
          simp [hjm]
        obtain ⟨k1, k2⟩ := h.storeRow (p := lo * ze.length) (nsv := (List.replicate n ze).flatten.map .leaf) (news := (Builtin.zeroCells zv.cells n).toList) hb hne g1 g2 g5 (by rw [hfl, hzc]) (by rw [hfl, ← hcl]; exact hle) (fun j c u hc hu => by
          rw [List.getElem?_map, Option.map_eq_some_iff] at hc
          obtain ⟨l, hl, rfl⟩ := hc
          obtain ⟨hj, hzj⟩ := hget j u hu
          rw [flat_rep_get _ _ hj] at hl
          exact RepS.leaf (hrz.2 _ l u hl hzj))
        rw [hfl, ← hcl] at k1 k2
        have hst := run_storeCells_at P (bm b) (lo * ze.length) et2 (Builtin.zeroCells zv.cells n).toList 0 cur w g1 (by rw [hzc]; omega) (fun v hv => by
          obtain ⟨j, hj⟩ := List.getElem?_of_mem hv
          exact hrz.one v (List.mem_of_getElem? (hget j v hj).2))
        have hrun : (execOp a.eval o).run P w = .ok (.value (.tuple #[])) (w.setRow (bm b) (cur.toList.take (lo * ze.length) ++ (Builtin.zeroCells zv.cells n).toList ++ cur.toList.drop ((lo + n) * ze.length)).toArray) := by
          rw [Nat.add_zero, hzc, ← hcl] at hst
          obtain ⟨n', rfl⟩ : ∃ n', n = n' + 1 := ⟨n - 1, by omega⟩
          simp [execOp, ho, resolve, hc, invoke, builtin, hargs', hv, Builtin.clear_, ht, run_underlying htu, zeroValue, typeInfo, hinf, hzv, hst]
        unfold Oper.wp
        rw [hrun]
        refine hk _ _ ⟨F, Ow, bm, ?_, k2, fun _ _ => rfl, put_defers _ _⟩
        exact Inv.put (a := a) k1 fun d _ => RepS.any
    · simp at hcs'
  · simp at he
theorem eff_sound {D : (Oracle m)} (hD : DSound P N D) (h : Inv P s a.tmps w F N Ow bm) (hnt : nt ≤ s.boxes.length) {o : Oper} {mv pu ta : Bool} {e : (Eff m)} (he : effO P D nt mv pu ta o s.eval s.boxes = some e)
    {next : Act → World → Prop} {Q : Exit → Act → World → Prop} (hk : ∀ a' w', Step P N nt (e.app s) a w F Ow bm a' w' → next a' w') : o.wp P a w next Q := by
  have ev := fun x => h.eval (a := a) rfl x
  have lf : ∀ x l, s.eval x = .leaf l → RepL w F N l (a.eval x) := fun x l hl => (ev x).leafOf l (drop_leaf hl)
  cases hop : o.op
  case load t x => exact sound_load h hop he hk
  case store t x y => exact sound_store h hop he hk
  case box t x => exact sound_box h hnt hop he hk
  case alloc t => exact sound_alloc h hnt hop he hk
  case buildSlice t n parts => exact sound_buildSlice h hop he hk
  case makeSlice t x y => exact sound_make h hnt hop he hk
  case move x =>
    simp only [effO, hop] at he
    split at he
    · simp only [Option.some.injEq] at he; subst he
      have hrun : (execOp a.eval o).run P w = .ok (.value (a.eval x)) w := by simp [execOp, hop]
      unfold Oper.wp; rw [hrun]
      exact hk _ _ (step_take h x o.dst o.type)
    · simp only [Option.some.injEq] at he; subst he
      exact step_val h (z := a.eval x) (by simp [execOp, hop]) (fun _ => RepS.drop (ev x)) hk
  case assign x =>
    simp only [effO, hop] at he
    split at he
    · simp only [Option.some.injEq] at he; subst he
      have hrun : (execOp a.eval o).run P w = .ok (.value (a.eval x)) w := by simp [execOp, hop]
      unfold Oper.wp; rw [hrun]
      exact hk _ _ (step_take h x o.dst o.type)
    · simp only [Option.some.injEq] at he; subst he
      exact step_val h (z := a.eval x) (by simp [execOp, hop]) (fun _ => RepS.drop (ev x)) hk
  case pick c x y =>
    simp only [effO, hop] at he
    obtain ⟨b, hb, he⟩ := onBool_eq he
    have hc := repL_bool (lf c _ hb)
    rw [branch_eq] at he
    cases b
    · simp only [Bool.false_eq_true, if_false, Option.some.injEq] at he; subst he
      exact step_val h (z := a.eval y) (by simp [execOp, hop, hc, asBool]) (fun _ => RepS.drop (ev y)) hk
    · simp only [if_true, Option.some.injEq] at he; subst he
      exact step_val h (z := a.eval x) (by simp [execOp, hop, hc, asBool]) (fun _ => RepS.drop (ev x)) hk
  case build t parts =>
    simp only [effO, hop, Option.map_eq_some_iff] at he
    obtain ⟨v, hv, rfl⟩ := he
    obtain ⟨us, hrun, ls, rfl, hr⟩ := buildV_run (N := N) (F := F) (w := w) (qs := parts.map fun p => (p.1, a.eval p.2)) hv (by simpa using parts_rep h parts.toList)
    exact step_val h (z := .agg us) (v := .agg ls) (by simp only [execOp, hop]; simp [hrun]) (fun _ => RepS.agg hr) hk
  case nilCheck x =>
    simp only [effO, hop] at he
    have hx := ev x
    split at he
    · rename_i b p hxe
      simp only [Option.map_some, Option.some.injEq] at he; subst he
      rw [hxe] at hx
      obtain ⟨hz, _⟩ := ptr_eq hx
      exact step_val h (z := a.eval x) (v := .ptr b p) (by simp [execOp, hop, hz]) (fun loc => by
        have : RepF (m := m) w F N bm s.al (.ptr b p) (a.eval x) := by simpa only [RepS] using hx
        simpa only [RepS] using this) hk
    · rename_i fc el p hxe
      simp only [Option.map_some, Option.some.injEq] at he; subst he
      rw [hxe] at hx
      have hF : RepF (m := m) w F N bm s.al (.eptr fc el p) (a.eval x) := by simpa only [RepS] using hx
      have hF2 := hF
      obtain ⟨g, q, vals, hz, _⟩ := hF2
      exact step_val h (z := a.eval x) (v := .eptr fc el p) (by simp [execOp, hop, hz]) (fun loc => by simpa only [RepS] using hF) hk
    · rename_i f cs hxe
      simp only [Option.map_some, Option.some.injEq] at he
      subst he
      rw [hxe] at hx
      have hF : RepF (m := m) w F N bm s.al (.kfn f cs) (a.eval x) := by simpa only [RepS] using hx
      have hF' := hF
      obtain ⟨g, q, vs, hz, _⟩ := hF'
      exact step_val h (z := a.eval x) (v := .kfn f cs) (by simp [execOp, hop, hz]) (fun loc => by simpa only [RepS] using hF) hk
    · simp at he
  case binOp op t x y p =>
    simp only [effO, hop, Option.map_eq_some_iff] at he
    obtain ⟨v, hv, rfl⟩ := he
    obtain ⟨z, hrun, hz⟩ := binV_run (P := P) (w := w) (F := F) (N := N) (o := x) (o' := y) hv (fun l hl => (ev x).leafOf l hl) (fun l hl => (ev y).leafOf l hl) (fun l hl => (ev x).aggOf l hl) (fun l hl => (ev y).aggOf l hl)
    exact step_val h (z := z) (v := v) (by simp only [execOp, hop]; rw [Sem.run_bind, hrun]; rfl) (fun _ => rep_of_leaf hz) hk
  case unOp op p x =>
    simp only [effO, hop, Option.map_eq_some_iff] at he
    obtain ⟨v, hv, rfl⟩ := he
    obtain ⟨z, hrun, hz⟩ := unV_run (P := P) hv (lf x)
    exact step_val h (z := z) (v := v) (by simp [execOp, hop, hrun]) (fun _ => rep_of_leaf hz) hk
  case convert src dst x =>
    simp only [effO, hop, Option.map_eq_some_iff] at he
    obtain ⟨v, hv, rfl⟩ := he
    rcases convV_run (P := P) (w := w) (F := F) (N := N) hv (fun l hl => (ev x).leafOf l hl) with ⟨z, l, hrun, rfl, hz⟩ | ⟨st, cap, ob, w', hrun, hcap, rfl, rfl, hcell⟩
    · exact step_val h (z := z) (v := .leaf l) (by simp [execOp, hop, hrun]) (fun _ => RepS.leaf hz) hk
    · obtain ⟨W, hsz, hnew⟩ := wrote_new (F := F) (w := w) (o := ob) (h.new _ (Nat.le_refl _)).1 (.inr rfl)
      obtain ⟨F', h1, h2, h3, h4⟩ := h.more W (by omega) st.size
      have hr : (execOp a.eval o).run P w = .ok (.value (.slice (some ⟨w.heap.size, 0, none⟩) st.size cap)) (w.drew.alloc ob) := by simp [execOp, hop, hrun]
      unfold Oper.wp; rw [hr]
      refine hk _ _ ⟨F', Ow, bm, ?_, h2, fun _ _ => rfl, put_defers _ _⟩
      rw [app_put]
      refine Inv.put (a := a) h1 fun d _ => RepS.leaf ?_
      have hl : (st.data.toList.map fun b => [(Leaf.int .u8 b.toNat : Leaf m)]).length = st.size := by rw [List.length_map, Array.length_toList]; rfl
      rw [← hl]
      refine repL_sl_mk (z := 1) (vals := st.data.toList.map fun b => Value.int .u8 b.toNat) (by rw [hl]; exact hcap) (by intro e he; obtain ⟨b, _, rfl⟩ := List.mem_map.1 he; rfl) (fun hpos => ⟨w.heap.size, 0, rfl, ⟨by rw [List.length_map] at hpos ⊢; exact hpos, Fl.Holds.kept⟩, ?_, ⟨fun hs => by rw [Fl.soft_kept] at hs; simp at hs, fun hz => absurd (Nat.lt_of_lt_of_le (N.lt _ hz) h.low.le) (Nat.lt_irrefl _)⟩, fun j v hj => ?_⟩) (repR_bytes _ _ _)
      · rw [h3, List.length_map, Array.length_toList]; exact Nat.le_of_eq (Nat.zero_add _)
      · simp only [List.getElem?_map, Option.map_eq_some_iff] at hj
        obtain ⟨b, hb, rfl⟩ := hj
        rw [Nat.zero_add]
        exact hcell j b hb
  case makeFunc fn first caps =>
    simp only [effO, hop] at he
    split at he
    · rename_i f
      split at he
      · rename_i hf0
        obtain ⟨hcap, he'⟩ := guarded_eq he
        simp only [Option.map_some, Option.some.injEq] at he'; subst he'
        have hfe : first = #[] := Array.eq_empty_of_size_eq_zero hf0
        refine step_val h (z := .func (.func f) #[] (caps.map a.eval)) (v := .fn f (caps.toList.map s.eval)) (by simp [execOp, hop, Instr.makeFunc, hfe]) (fun loc => ?_) hk
        refine ⟨caps.map a.eval, rfl, by simp, fun j c u hc hu => ?_⟩
        simp only [List.getElem?_map, Option.map_eq_some_iff] at hc
        obtain ⟨x, hx, rfl⟩ := hc
        have hu' : a.eval x = u := by
          have : caps[j]? = some x := by simpa using hx
          simpa [this] using hu
        subst hu'
        have hok := List.all_eq_true.1 hcap (s.eval x) (List.mem_map.2 ⟨x, List.mem_of_getElem? hx, rfl⟩)
        have hr := ev x
        cases hxe : s.eval x <;> rw [hxe] at hok hr <;> first | (simp [capOk] at hok; done) | simpa only [RepS] using hr
      · simp at he
    · simp at he
  case slice t x lo hi mx =>
    simp only [effO, hop] at he
    split at he
    · rw [Option.bind_eq_some_iff] at he
      obtain ⟨l, hl, he⟩ := he
      rw [Option.bind_eq_some_iff] at he
      obtain ⟨r, hr, he⟩ := he
      rw [Option.map_eq_some_iff] at he
      obtain ⟨v, hv, rfl⟩ := he
      obtain ⟨z, hrun, hz⟩ := sliceV_run (P := P) (w := w) (F := F) (N := N) (bm := bm) (al := s.al) hv (fun l hl => (ev x).leafOf l hl) (bound_rep h hl) (bound_rep h hr) (fun b z lo n hb => (ev x).bslOf b z lo n hb)
      exact step_val h (z := z) (v := v) (by simp [execOp, hop, hrun]) (fun _ => hz _ _) hk
    · rename_i mx
      rw [Option.bind_eq_some_iff] at he
      obtain ⟨l, hl, he⟩ := he
      rw [Option.bind_eq_some_iff] at he
      obtain ⟨r, hr, he⟩ := he
      rw [Option.bind_eq_some_iff] at he
      obtain ⟨c, hc, he⟩ := he
      rw [Option.map_eq_some_iff] at he
      obtain ⟨v, hv, rfl⟩ := he
      obtain ⟨z, hrun, hz⟩ := slice3V_run (P := P) (w := w) (F := F) (N := N) (bm := bm) (al := s.al) hv (bound_rep h hl) (bound_rep h hr) (bound_rep h hc) (fun b z lo n hb => (ev x).bslOf b z lo n hb)
      simp only [Option.map_some] at hrun
      exact step_val h (z := z) (v := v) (by simp [execOp, hop, hrun]) (fun _ => hz _ _) hk
  case fieldAddr t x f =>
    simp only [effO, hop, Option.map_eq_some_iff] at he
    obtain ⟨v, hv, rfl⟩ := he
    obtain ⟨z, hrun, hz⟩ := fieldAddr_run (P := P) (s := s) hv (ev x)
    exact step_val h (z := z) (v := v) (by simp [execOp, hop, hrun]) hz hk
  case field t x f =>
    simp only [effO, hop] at he
    have hx := ev x
    split at he
    · rename_i cs hxe
      rw [Option.bind_eq_some_iff] at he
      obtain ⟨p, hp, he⟩ := he
      rw [Option.map_eq_some_iff] at he
      obtain ⟨v, hv, rfl⟩ := he
      obtain ⟨fs, fld, hu, hf, rfl⟩ := fieldT_eq hp
      rw [hxe] at hx
      obtain ⟨us, hus, hr⟩ := hx.aggOf cs rfl
      obtain ⟨z, hrun, hz⟩ := partL_run (P := P) (w := w) (F := F) (N := N) hv hr
      exact step_val h (z := z) (v := v) (by simp [execOp, hop, hus, Instr.field, run_underlying hu, hf, asAgg, hrun]) (fun _ => rep_of_part hz) hk
    · simp at he
  case indexAddr t x i =>
    simp only [effO, hop, Option.map_eq_some_iff] at he
    obtain ⟨v, hv, rfl⟩ := he
    obtain ⟨z, hrun, hz⟩ := indexAddrV_run (P := P) (w := w) (F := F) (N := N) (bm := bm) (al := s.al) hv (fun l hl => (ev x).leafOf l hl) (lf i) (fun b z lo n hb => (ev x).bslOf b z lo n hb)
    exact step_val h (z := z) (v := v) (by simp [execOp, hop, hrun]) (fun _ => hz _ _) hk
  case index t x i =>
    simp only [effO, hop, Option.map_eq_some_iff] at he
    obtain ⟨v, hv, rfl⟩ := he
    obtain ⟨z, hrun, hz⟩ := indexV_run (P := P) (w := w) (F := F) (N := N) hv (lf x) (lf i)
    exact step_val h (z := z) (v := v) (by simp [execOp, hop, hrun]) (fun _ => rep_of_leaf hz) hk
  case extract x i =>
    simp only [effO, hop] at he
    have hx := ev x
    split at he
    · rename_i vs hxe
      rw [Option.bind_eq_some_iff] at he
      obtain ⟨v, hv, he⟩ := he
      simp only [Option.map_some, Option.some.injEq] at he; subst he
      rw [hxe] at hx
      obtain ⟨us, hus, hsz, hc⟩ := hx
      have hlt : i < us.size := by rw [hsz]; exact (List.getElem?_eq_some_iff.1 hv).1
      exact step_val h (z := us[i]) (v := v.drop) (by simp [execOp, hop, hus, Instr.extract, hlt]) (fun _ => repS_of_F (hc i v _ hv (Array.getElem?_eq_getElem hlt))) hk
    · simp at he
  case call c =>
    cases hc : c.callee with
    | value g => exact sound_call hD h hop hc he hk
    | invoke r m => simp only [effO, hop, hc] at he; simp at he
    | builtin b =>
      have he0 := he
      simp only [effO, hop, hc] at he
      split at he
      · rename_i x y hargs
        exact sound_append h hop hc hargs he0 hk
      · rename_i x hargs
        have hargs' : c.args = #[x] := by rw [← hargs]
        rw [Option.map_eq_some_iff] at he
        obtain ⟨v, hv, rfl⟩ := he
        obtain ⟨z, hrun, hz⟩ := lenV_run (P := P) (w := w) (F := F) (N := N) (ty := o.type) hv (fun l hl => (ev x).seeOf l hl) (fun b z lo n hb => (ev x).bslSee b z lo n hb)
        exact step_val h (z := z) (v := v) (by simp [execOp, hop, resolve, hc, invoke, builtin, hargs', hrun]) (fun _ => rep_of_leaf hz) hk
      · rename_i x hargs
        exact sound_clear h hop hc hargs he0 hk
      · rename_i x y hargs
        have hargs' : c.args = #[x, y] := by rw [← hargs]
        rw [Option.map_eq_some_iff] at he
        obtain ⟨v, hv, rfl⟩ := he
        obtain ⟨z, hrun, hz⟩ := minV_run (P := P) (w := w) (F := F) (N := N) (ts := c.argTypes) (ty := o.type) hv (lf x) (lf y)
        simp only [if_true] at hrun
        exact step_val h (z := z) (v := v) (by simp [execOp, hop, resolve, hc, invoke, builtin, hargs', hrun]) (fun _ => rep_of_leaf hz) hk
      · rename_i x y hargs
        have hargs' : c.args = #[x, y] := by rw [← hargs]
        rw [Option.map_eq_some_iff] at he
        obtain ⟨v, hv, rfl⟩ := he
        obtain ⟨z, hrun, hz⟩ := minV_run (P := P) (w := w) (F := F) (N := N) (ts := c.argTypes) (ty := o.type) hv (lf x) (lf y)
        simp only [Bool.false_eq_true, if_false] at hrun
        exact step_val h (z := z) (v := v) (by simp [execOp, hop, resolve, hc, invoke, builtin, hargs', hrun]) (fun _ => rep_of_leaf hz) hk
      · simp at he
  all_goals (simp only [effO, hop] at he; simp at he)
end
end Go.Vs
end
section
namespace Go.Vs
variable {m : Bool}
variable {P : Program} {N : Env}
theorem effO_boxes {D : (Oracle m)} {nt : Nat} {mv pu ta : Bool} {o : Oper} {ρ : Operand → (SV m)} {bs : (Boxes m)} {e : (Eff m)} (h : effO P D nt mv pu ta o ρ bs = some e) : (e.boxes.getD bs).length = bs.length := by
  have val : ∀ (v : Option (SV m)), v.map (fun v => (⟨dstE o.dst v, none⟩ : (Eff m))) = some e → (e.boxes.getD bs).length = bs.length := by
    intro v hv
    rw [Option.map_eq_some_iff] at hv
    obtain ⟨_, _, rfl⟩ := hv
    rfl
  cases hop : o.op
  case move x => simp only [effO, hop] at h; split at h <;> (simp only [Option.some.injEq] at h; subst h; rfl)
  case assign x => simp only [effO, hop] at h; split at h <;> (simp only [Option.some.injEq] at h; subst h; rfl)
  case pick c x y =>
    simp only [effO, hop] at h
    obtain ⟨b, _, h⟩ := onBool_eq h
    rw [branch_eq] at h
    cases b <;> simp at h <;> subst h <;> rfl
  case box t x =>
    simp only [effO, hop] at h
    split at h
    · split at h
      · obtain ⟨_, h⟩ := guarded_eq h
        simp only [Option.some.injEq] at h; subst h; simp
      · simp at h
    · simp at h
  case alloc t =>
    simp only [effO, hop] at h
    split at h
    · split at h
      · obtain ⟨_, h⟩ := guarded_eq h
        rw [Option.map_eq_some_iff] at h
        obtain ⟨_, _, rfl⟩ := h
        simp
      · simp at h
    · simp at h
  case build t ps => exact val _ (by simpa only [effO, hop] using h)
  case buildSlice t n ps => exact val _ (by simpa only [effO, hop] using h)
  case load t x =>
    simp only [effO, hop] at h
    split at h
    · exact val _ h
    · obtain ⟨_, h⟩ := guarded_eq h
      exact val (some _) h
    · rw [Option.bind_eq_some_iff] at h
      obtain ⟨cs, _, h⟩ := h
      split at h
      · rw [Option.bind_eq_some_iff] at h
        obtain ⟨n, _, h⟩ := h
        split at h
        · rw [Option.map_eq_some_iff] at h
          obtain ⟨_, _, rfl⟩ := h
          rfl
        · simp at h
      · rw [Option.map_eq_some_iff] at h
        obtain ⟨c, _, h⟩ := h
        split at h <;> subst h <;> simp
    · simp at h
  case makeSlice t x y =>
    simp only [effO, hop] at h
    split at h
    · split at h
      · obtain ⟨_, h⟩ := guarded_eq h
        rw [Option.map_eq_some_iff] at h
        obtain ⟨_, _, rfl⟩ := h
        simp
      · simp at h
    · simp at h
  case store t x y =>
    simp only [effO, hop] at h
    split at h
    · split at h
      · exact val _ h
      · simp at h
    · rw [Option.bind_eq_some_iff] at h
      obtain ⟨cs, _, h⟩ := h
      rw [Option.bind_eq_some_iff] at h
      obtain ⟨n, _, h⟩ := h
      obtain ⟨_, h⟩ := guarded_eq h
      split at h
      · simp only [Option.some.injEq] at h; subst h; simp
      · simp at h
    · simp at h
  case nilCheck x =>
    simp only [effO, hop] at h
    split at h
    · exact val (some _) h
    · exact val (some _) h
    · exact val (some _) h
    · simp at h
  case binOp op t x y p => exact val _ (by simpa only [effO, hop] using h)
  case unOp op p x => exact val _ (by simpa only [effO, hop] using h)
  case convert src dst x => exact val _ (by simpa only [effO, hop] using h)
  case makeFunc fn first caps =>
    simp only [effO, hop] at h
    split at h
    · split at h
      · obtain ⟨_, h⟩ := guarded_eq h
        exact val (some _) h
      · simp at h
    · simp at h
  case slice t x lo hi mx =>
    simp only [effO, hop] at h
    split at h
    · rw [Option.bind_eq_some_iff] at h
      obtain ⟨_, _, h⟩ := h
      rw [Option.bind_eq_some_iff] at h
      obtain ⟨_, _, h⟩ := h
      exact val _ h
    · rw [Option.bind_eq_some_iff] at h
      obtain ⟨_, _, h⟩ := h
      rw [Option.bind_eq_some_iff] at h
      obtain ⟨_, _, h⟩ := h
      rw [Option.bind_eq_some_iff] at h
      obtain ⟨_, _, h⟩ := h
      exact val _ h
  case fieldAddr t x f => exact val _ (by simpa only [effO, hop] using h)
  case field t x f =>
    simp only [effO, hop] at h
    split at h
    · rw [Option.bind_eq_some_iff] at h
      obtain ⟨_, _, h⟩ := h
      exact val _ h
    · simp at h
  case indexAddr t x i => exact val _ (by simpa only [effO, hop] using h)
  case index t x i => exact val _ (by simpa only [effO, hop] using h)
  case extract x i =>
    simp only [effO, hop] at h
    split at h
    · rw [Option.bind_eq_some_iff] at h
      obtain ⟨_, _, h⟩ := h
      exact val (some _) h
    · simp at h
  case call c =>
    cases hc : c.callee with
    | invoke r m => simp only [effO, hop, hc] at h; simp at h
    | builtin b =>
      simp only [effO, hop, hc] at h
      split at h
      · rw [Option.map_eq_some_iff] at h
        obtain ⟨_, _, rfl⟩ := h
        rfl
      · exact val _ h
      · split at h
        · rw [Option.bind_eq_some_iff] at h
          obtain ⟨_, _, h⟩ := h
          rw [Option.map_eq_some_iff] at h
          obtain ⟨_, _, rfl⟩ := h
          simp
        · simp at h
      · exact val _ h
      · exact val _ h
      · simp at h
    | value g =>
      simp only [effO, hop, hc] at h
      split at h
      · obtain ⟨_, h⟩ := guarded_eq h
        rw [Option.map_eq_some_iff] at h
        obtain ⟨q, hq, rfl⟩ := h
        obtain ⟨_, cs, r, _, _, _, _, h2⟩ := callE_eq hq
        simp only
        rw [h2, putBoxes_length]
      · simp at h
  all_goals (simp only [effO, hop] at h; simp at h)
section
variable {D : (Oracle m)} {ops : Array Oper} {nt : Nat} {mv pu ta : Nat → Bool}
theorem stepE_boxes {mq p qa : Bool} {o : Oper} {s : (St m)} {e : (Eff m)} (h : stepE P D nt mq p qa ops o s = some e) : (e.app s).boxes.length = s.boxes.length := by
  unfold stepE at h
  split at h
  · exact effO_boxes h
  · split at h
    · unfold onGuard at h
      split at h
      · rw [branch_eq] at h
        split at h
        · exact effO_boxes h
        · simp only [Option.some.injEq] at h; subst h; rfl
      · simp only [Option.some.injEq] at h; subst h; rfl
      · simp at h
    · simp at h
theorem Step.trans {s1 s2 : (St m)} {a0 a1 a2 : Act} {w0 w1 w2 : World} {F0 : Fr} {O0 : Own} {b0 : Nat → Nat} (h : Step P N nt s1 a0 w0 F0 O0 b0 a1 w1)
    (k : ∀ F1 O1 b1, Inv P s1 a1.tmps w1 F1 N O1 b1 → Step P N nt s2 a1 w1 F1 O1 b1 a2 w2) : Step P N nt s2 a0 w0 F0 O0 b0 a2 w2 := by
  obtain ⟨F1, O1, b1, h1, h2, h3, h4⟩ := h
  obtain ⟨F2, O2, b2, k1, k2, k3, k4⟩ := k F1 O1 b1 h1
  exact ⟨F2, O2, b2, k1, h2.trans k2, fun b hb => (k3 b hb).trans (h3 b hb), k4.trans h4⟩
theorem Step.inv {s1 : (St m)} {a0 a1 : Act} {w0 w1 : World} {F0 : Fr} {O0 : Own} {b0 : Nat → Nat} (h : Step P N nt s1 a0 w0 F0 O0 b0 a1 w1) : ∃ F1 O1 b1, Inv P s1 a1.tmps w1 F1 N O1 b1 ∧
    (∀ (s2 : (St m)) (a2 : Act) (w2 : World), Step P N nt s2 a1 w1 F1 O1 b1 a2 w2 → Step P N nt s2 a0 w0 F0 O0 b0 a2 w2) := by
  obtain ⟨F1, O1, b1, h1, h2, h3, h4⟩ := h
  refine ⟨F1, O1, b1, h1, fun s2 a2 w2 => ?_⟩
  rintro ⟨F2, O2, b2, k1, k2, k3, k4⟩
  exact ⟨F2, O2, b2, k1, h2.trans k2, fun b hb => (k3 b hb).trans (h3 b hb), k4.trans h4⟩
theorem Step.refl {s : (St m)} {a : Act} {w : World} {F : Fr} {O : Own} {b : Nat → Nat} (h : Inv P s a.tmps w F N O b) : Step P N nt s a w F O b a w := ⟨F, O, b, h, Far.refl _ _ _, fun _ _ => rfl, rfl⟩
theorem yielded_bool {s : (St m)} {a : Act} {w : World} {F : Fr} {Ow : Own} {bm : Nat → Nat} (h : Inv P s a.tmps w F N Ow bm) {j : Nat} {t : Tmp} (hj : (ops[j]?).bind (·.dst) = some t) {b : Bool} (hb : s.tmps.getD t .any = .leaf (.bool b)) :
    yielded ops a.tmps j = some b := by
  have hs := h.slot t
  rw [hb] at hs
  have hv := repL_bool (hs.leafOf _ rfl)
  unfold yielded
  rw [hj]
  simp only [Option.bind_some]
  rcases Nat.lt_or_ge t a.tmps.size with hl | hl
  · rw [Array.getElem?_eq_getElem hl]
    have : a.tmps[t] = .bool b := by simpa [Array.getD, hl] using hv
    rw [this]
  · simp [Array.getD, Nat.not_lt.2 hl, undef] at hv
theorem yielded_skip {s : (St m)} {a : Act} {w : World} {F : Fr} {Ow : Own} {bm : Nat → Nat} (h : Inv P s a.tmps w F N Ow bm) {j : Nat} {t : Tmp} (hj : (ops[j]?).bind (·.dst) = some t) (hb : s.tmps.getD t .any = .skip) :
    yielded ops a.tmps j = none := by
  have hs := h.slot t
  rw [hb] at hs
  have hv : a.tmps.getD t undef = undef := by simpa only [RepS, RepF] using hs
  unfold yielded
  rw [hj]
  simp only [Option.bind_some]
  rcases Nat.lt_or_ge t a.tmps.size with hl | hl
  · rw [Array.getElem?_eq_getElem hl]
    have : a.tmps[t] = undef := by simpa [Array.getD, hl] using hv
    rw [this]
    rfl
  · rw [Array.getElem?_eq_none hl]
theorem step_sound (hD : DSound P N D) {s : (St m)} {a : Act} {w : World} {F : Fr} {Ow : Own} {bm : Nat → Nat} (h : Inv P s a.tmps w F N Ow bm) (hnt : nt ≤ s.boxes.length) {i : Nat} {o : Oper} (ho : ops[i]? = some o) {mq p qa : Bool} {e : (Eff m)}
    (he : stepE P D nt mq p qa ops o s = some e) {K : Act → World → Prop} {Q : Exit → Act → World → Prop} (hk : ∀ a' w', Step P N nt (e.app s) a w F Ow bm a' w' → K a' w') : wpOp P ops Q i K a w := by
  unfold wpOp
  rw [ho]
  simp only
  have run : effO P D nt mq p qa o s.eval s.boxes = some e → Region.wanted o (yielded ops a.tmps) = true →
      if Region.wanted o (yielded ops a.tmps) = true then o.wp P a w K Q ∨ (o.asks P a w ∧ LetsOut Q) else K (a.put o.dst undef) w := by
    intro he hw
    rw [if_pos hw]
    exact .inl (eff_sound hD h hnt he hk)
  have pass : (⟨dstE o.dst .skip, none⟩ : (Eff m)) = e → Region.wanted o (yielded ops a.tmps) = false →
      if Region.wanted o (yielded ops a.tmps) = true then o.wp P a w K Q ∨ (o.asks P a w ∧ LetsOut Q) else K (a.put o.dst undef) w := by
    rintro rfl hw
    rw [if_neg (by rw [hw]; simp)]
    refine hk _ _ ⟨F, Ow, bm, ?_, Far.refl _ _ _, fun _ _ => rfl, put_defers _ _⟩
    rw [app_put]
    exact Inv.put (a := a) h fun d _ => by simp only [RepS, RepF]
  unfold stepE at he
  split at he
  · rename_i hg
    exact run he (by simp [Region.wanted, hg])
  · rename_i j want hg
    split at he
    · rename_i t ht
      unfold onGuard at he
      split at he
      · rename_i b hb
        have hy := yielded_bool h ht hb
        rw [branch_eq] at he
        split at he
        · rename_i hbw
          exact run he (by simp [Region.wanted, hg, hy]; simpa using hbw)
        · rename_i hbw
          exact pass (by simpa using he) (by simp [Region.wanted, hg, hy]; simpa using hbw)
      · rename_i hb
        have hy := yielded_skip h ht hb
        exact pass (by simpa using he) (by simp [Region.wanted, hg, hy])
      · simp at he
    · simp at he
theorem any_sound (hD : DSound P N D) {s' : (St m)} {Q : Exit → Act → World → Prop} : ∀ (fuel : Nat) (listed : Array Bool) (s : (St m)) (a : Act) (w : World) (F : Fr) (Ow : Own) (bm : Nat → Nat), Inv P s a.tmps w F N Ow bm → nt ≤ s.boxes.length →
    anyA P D nt mv pu ta ops (· = s') fuel listed s → (∀ a' w', Step P N nt s' a w F Ow bm a' w' → Q .normal a' w') → wpAny P .any ops Q fuel listed a w := by
  intro fuel
  induction fuel with
  | zero =>
    intro listed s a w F Ow bm h _ hA hk
    obtain ⟨h1, rfl⟩ := hA
    exact ⟨h1, hk a w (Step.refl h)⟩
  | succ fuel ih =>
    intro listed s a w F Ow bm h hnt hA hk
    refine ⟨fun h0 => ?_, fun i hi => ?_⟩
    · obtain rfl := hA.1 h0
      exact hk a w (Step.refl h)
    · obtain ⟨o, e, ho, he, hrest⟩ := hA.2 i hi
      refine step_sound hD h hnt ho he fun a' w' hst => ?_
      obtain ⟨F1, O1, b1, h1, htr⟩ := hst.inv
      exact ih _ _ a' w' F1 O1 b1 h1 (by rw [stepE_boxes he]; exact hnt) hrest fun a2 w2 h2 => hk a2 w2 (htr _ _ _ h2)
theorem steps_sound (hD : DSound P N D) {s' : (St m)} {Q : Exit → Act → World → Prop} : ∀ (l : List Oper) (k : Nat) (s : (St m)) (a : Act) (w : World) (F : Fr) (Ow : Own) (bm : Nat → Nat), (∀ j, l[j]? = ops[k + j]?) → Inv P s a.tmps w F N Ow bm → nt ≤ s.boxes.length →
    stepsK P D nt mv pu ta ops l k s some = some s' → (∀ a' w', Step P N nt s' a w F Ow bm a' w' → Q .normal a' w') → wpOps P ops Q (List.range' k l.length) a w := by
  intro l
  induction l with
  | nil =>
    intro k s a w F Ow bm _ h _ hs hk
    simp only [stepsK, Option.some.injEq] at hs
    subst hs
    exact hk a w (Step.refl h)
  | cons o l ih =>
    intro k s a w F Ow bm hl h hnt hs hk
    have h0 : ops[k]? = some o := by simpa using (hl 0).symm
    simp only [stepsK, stepK_eff] at hs
    obtain ⟨e, he, hrest⟩ := Option.bind_eq_some_iff.1 hs
    rw [List.length_cons, List.range'_succ, wpOps_cons]
    refine step_sound hD h hnt h0 he fun a' w' hst => ?_
    obtain ⟨F1, O1, b1, h1, htr⟩ := hst.inv
    exact ih (k + 1) _ a' w' F1 O1 b1 (fun j => by have := hl (j + 1); simpa [Nat.add_assoc, Nat.add_comm 1 j] using this) h1 (by rw [stepE_boxes he]; exact hnt) hrest fun a2 w2 h2 => hk a2 w2 (htr _ _ _ h2)
theorem stepsK_bind {β : Type} : ∀ (l : List Oper) (i : Nat) (s : (St m)) (k : (St m) → Option β), stepsK P D nt mv pu ta ops l i s k = (stepsK P D nt mv pu ta ops l i s some).bind k
  | [], i, s, k => rfl
  | o :: l, i, s, k => by
    simp only [stepsK, stepK_eff, Option.bind_assoc]
    congr 1
    funext e
    exact stepsK_bind l (i + 1) _ k
theorem stepsK_boxes : ∀ (l : List Oper) (i : Nat) (s s' : (St m)), stepsK P D nt mv pu ta ops l i s some = some s' → s'.boxes.length = s.boxes.length
  | [], i, s, s', h => by simp only [stepsK, Option.some.injEq] at h; subst h; rfl
  | o :: l, i, s, s', h => by
    simp only [stepsK, stepK_eff] at h
    obtain ⟨e, he, hrest⟩ := Option.bind_eq_some_iff.1 h
    rw [stepsK_boxes l (i + 1) _ s' hrest, stepE_boxes he]
theorem drew_inv {s : (St m)} {tmps : Array Value} {w : World} {F : Fr} {Ow : Own} {bm : Nat → Nat} (h : Inv P s tmps w F N Ow bm) : Inv P s tmps { w with drawn := w.drawn + 1 } F N Ow bm ∧ Far N w F Ow { w with drawn := w.drawn + 1 } F Ow := by
  have hk : Keeps N w F { w with drawn := w.drawn + 1 } F := .mk' (fun _ _ _ => rfl) (fun _ => Nat.le_refl _) (fun _ h => h) fun _ _ h => h
  exact ⟨h.to hk (Nat.le_refl _) (fun _ _ => rfl) (fun g loc hg _ => ⟨rfl, rfl, hg⟩) (fun g hg => h.new g hg) h.zow, ⟨rfl, rfl, rfl, Nat.le_refl _, hk, fun g _ hg => ⟨fun _ => rfl, rfl, hg⟩⟩⟩
theorem region_sound (hP : P.follows .mixedOrders = true) (hD : DSound P N D) {s s' : (St m)} {a : Act} {w : World} {F : Fr} {Ow : Own} {bm : Nat → Nat} {id : Nat} {draw : Bool} (h : Inv P s a.tmps w F N Ow bm) (hnt : nt ≤ s.boxes.length)
    (hd : draw = true → okRegion mv pu ta ops = true) (hs : stepsK P D nt mv pu ta ops ops.toList 0 s some = some s') {Q : Exit → Act → World → Prop} (hk : ∀ a' w', Step P N nt s' a w F Ow bm a' w' → Q .normal a' w') : (Code.region id ops draw).wp P Q a w := by
  cases draw with
  | false =>
    refine wp_region ?_
    have := steps_sound (mv := mv) (pu := pu) (Q := Q) hD ops.toList 0 s a w F Ow bm (fun j => by simp) h hnt hs hk
    rwa [← List.range_eq_range', Array.length_toList] at this
  | true =>
    obtain ⟨h1, h2⟩ := drew_inv h
    refine wp_region_any hP ?_
    refine any_sound hD ops.size _ s a _ F Ow bm h1 hnt (any_region (hd rfl) hs) fun a' w' hst => hk a' w' ?_
    obtain ⟨F1, O1, b1, k1, k2, k3, k4⟩ := hst
    exact ⟨F1, O1, b1, k1, h2.trans k2, k3, k4⟩
end
end Go.Vs
end
section
namespace Go.Vs
variable {m : Bool}
variable {P : Program} {N : Env}
theorem setAny_get (ts : List Nat) : ∀ (l : List (SV m)) (t : Nat), (ts.foldl (fun l t => l.set t .any) l).length = l.length ∧
    ((ts.foldl (fun l t => l.set t .any) l).getD t .any = .any ∨ (ts.foldl (fun l t => l.set t .any) l).getD t .any = l.getD t .any) := by
  induction ts with
  | nil => intro l t; exact ⟨rfl, .inr rfl⟩
  | cons u ts ih =>
    intro l t
    obtain ⟨h1, h2⟩ := ih (l.set u .any) t
    refine ⟨by rw [List.foldl_cons, h1]; simp, ?_⟩
    rw [List.foldl_cons]
    rcases h2 with h2 | h2
    · exact .inl h2
    · rw [h2]
      by_cases hu : t = u
      · subst hu
        left
        by_cases hl : t < l.length
        · rw [List.getD_eq_getElem?_getD, List.getElem?_set_self hl]; rfl
        · rw [List.getD_eq_getElem?_getD, List.getElem?_eq_none (by simpa using hl)]; rfl
      · right
        rw [List.getD_eq_getElem?_getD, List.getElem?_set_ne (fun e => hu e.symm), ← List.getD_eq_getElem?_getD]
theorem setNone_get (bs : List Nat) : ∀ (l : (Boxes m)), (bs.foldl (fun l b => l.set b none) l).length = l.length ∧ ∀ b, (b ∉ bs → boxAt (bs.foldl (fun l b => l.set b none) l) b = boxAt l b) ∧ (b ∈ bs → boxAt (bs.foldl (fun l b => l.set b none) l) b = none) := by
  induction bs with
  | nil => intro l; exact ⟨rfl, fun b => ⟨fun _ => rfl, by simp⟩⟩
  | cons c bs ih =>
    intro l
    obtain ⟨h1, h2⟩ := ih (l.set c none)
    refine ⟨by rw [List.foldl_cons, h1]; simp, fun b => ⟨fun hb => ?_, fun hb => ?_⟩⟩
    · rw [List.mem_cons, not_or] at hb
      rw [List.foldl_cons, (h2 b).1 hb.2, boxAt_set_ne hb.1]
    · rw [List.foldl_cons]
      by_cases hb2 : b ∈ bs
      · exact (h2 b).2 hb2
      · have : b = c := by
          rcases List.mem_cons.1 hb with h | h
          · exact h
          · exact absurd h hb2
        subst this
        rw [(h2 b).1 hb2]
        by_cases hl : b < l.length
        · rw [boxAt_set_self hl]
        · unfold boxAt
          rw [List.getD_eq_getElem?_getD, List.getElem?_eq_none (by simpa using hl)]; rfl
theorem RepF.fewer {w : World} {F : Fr} {bm : Nat → Nat} {al al' : Nat → Bool} {bs : List Nat} {x : (SV m)} {v : Value} (h : RepF w F N bm al x v) (hn : x.noPtr bs = true) (ha : ∀ b, b ∉ bs → al b = true → al' b = true) : RepF w F N bm al' x v := by
  cases x with
  | ptr b o =>
    simp only [RepF] at h ⊢
    exact ⟨h.1, ha b (by simpa [SV.noPtr] using hn) h.2⟩
  | bsl b z lo n =>
    simp only [RepF] at h ⊢
    exact ⟨h.1, ha b (by simpa [SV.noPtr] using hn) h.2⟩
  | kfn f cs =>
    obtain ⟨g, o, vs, e, ho, hc, hs, hr⟩ := h
    refine ⟨g, o, vs, e, ho, hc, hs, fun j c u a b => ?_⟩
    have := hr j c u a b
    cases c with
    | none => exact this
    | some p =>
      have hp : p.1 ∈ kIds cs := List.mem_flatMap.2 ⟨_, List.mem_of_getElem? a, by simp⟩
      have := List.all_eq_true.1 hn p.1 hp
      exact ⟨‹_ ∧ _›.1, ha p.1 (by simpa using this) ‹_ ∧ _›.2⟩
  | _ => exact h
theorem RepS.fewer {w : World} {F : Fr} {Ow : Own} {bm : Nat → Nat} {al al' : Nat → Bool} {bs : List Nat} {loc : Loc} {x : (SV m)} {v : Value} (h : RepS P w F N Ow bm al loc x v) (hn : x.noBox bs = true) (ha : ∀ b, b ∉ bs → al b = true → al' b = true) : RepS P w F N Ow bm al' loc x v := by
  cases x with
  | ptr b o =>
    have h' : RepF (m := m) w F N bm al (.ptr b o) v := by simpa only [RepS] using h
    simpa only [RepS] using h'.fewer hn ha
  | bsl b z lo n =>
    have h' : RepF (m := m) w F N bm al (.bsl b z lo n) v := by simpa only [RepS] using h
    simpa only [RepS] using h'.fewer hn ha
  | fn g caps =>
    obtain ⟨vs, e, hs, hc⟩ := h
    exact ⟨vs, e, hs, fun j c u a b => (hc j c u a b).fewer (List.all_eq_true.1 hn c (List.mem_of_getElem? a)) ha⟩
  | tup cs =>
    obtain ⟨vs, e, hs, hc⟩ := h
    exact ⟨vs, e, hs, fun j c u a b => (hc j c u a b).fewer (List.all_eq_true.1 hn c (List.mem_of_getElem? a)) ha⟩
  | own eo es => exact h
  | raw eo es => exact h
  | leaf l => exact h
  | agg cs => exact h
  | nilptr => exact h
  | nilface => exact h
  | any => exact h
  | skip => exact h
  | eptr c e o => exact h
  | kfn f cs =>
    have h' : RepF (m := m) w F N bm al (.kfn f cs) v := by simpa only [RepS] using h
    simpa only [RepS] using h'.fewer hn ha
section
variable {s : (St m)} {a : Act} {w : World} {F : Fr} {Ow : Own} {bm : Nat → Nat} {nt : Nat}
theorem Inv.again {tmps : Array Value} (h : Inv P s tmps w F N Ow bm) {ts bs : List Nat} {s' : (St m)} (hs : s.again ts bs = some s') : Inv P s' tmps w F N Ow bm ∧ s'.boxes.length = s.boxes.length := by
  unfold St.again at hs
  obtain ⟨hn, hs⟩ := guarded_eq hs
  simp only [Option.some.injEq] at hs
  subst hs
  obtain ⟨hl, hb⟩ := setNone_get bs s.boxes
  refine ⟨?_, hl⟩
  have slotRep : ∀ t, RepS P w F N Ow bm s.al (.tmp t) ((s.forget ts bs).tmps.getD t .any) (tmps.getD t undef) := by
    intro t
    rcases (setAny_get ts s.tmps t).2 with h2 | h2
    · show RepS P w F N Ow bm s.al (.tmp t) ((ts.foldl (fun l t => l.set t .any) s.tmps).getD t .any) _
      rw [h2]; exact RepS.any
    · show RepS P w F N Ow bm s.al (.tmp t) ((ts.foldl (fun l t => l.set t .any) s.tmps).getD t .any) _
      rw [h2]; exact h.slot t
  have ha : ∀ b, b ∉ bs → s.al b = true → (s.forget ts bs).al b = true := by
    intro b hb' hal
    show (boxAt (bs.foldl (fun l b => l.set b none) s.boxes) b).isSome = true
    rw [(hb b).1 hb']; exact hal
  have hbox : ∀ b cs, boxAt (s.forget ts bs).boxes b = some cs → b ∉ bs ∧ boxAt s.boxes b = some cs := by
    intro b cs hbc
    have hbc' : boxAt (bs.foldl (fun l b => l.set b none) s.boxes) b = some cs := hbc
    by_cases hm : b ∈ bs
    · rw [(hb b).2 hm] at hbc'; simp at hbc'
    · rw [(hb b).1 hm] at hbc'; exact ⟨hm, hbc'⟩
  unfold St.noBox at hn
  rw [Bool.or_eq_true] at hn
  have fewer : ∀ (loc : Loc) (x : (SV m)) (v : Value), (bs.isEmpty = false → x.noBox bs = true) → RepS P w F N Ow bm s.al loc x v → RepS P w F N Ow bm (s.forget ts bs).al loc x v := by
    intro loc x v hx hr
    cases hbe : bs.isEmpty with
    | false => exact hr.fewer (hx hbe) ha
    | true =>
      have : bs = [] := by simpa using hbe
      subst this
      exact hr
  refine ⟨by rw [← h.len]; exact (setAny_get ts s.tmps 0).1, fun t => ?_, fun b cs hbc => ?_, h.low, h.new, fun b cs hbc => h.bmn b cs (hbox b cs hbc).2, h.zow⟩
  · refine fewer _ _ _ (fun hbe => ?_) (slotRep t)
    rcases hn with hn | hn
    · rw [hbe] at hn; simp at hn
    · rw [Bool.and_eq_true] at hn
      rcases Nat.lt_or_ge t (s.forget ts bs).tmps.length with ht | ht
      · rw [List.getD_eq_getElem?_getD, List.getElem?_eq_getElem ht]
        exact List.all_eq_true.1 hn.1 _ (List.getElem_mem ht)
      · rw [List.getD_eq_getElem?_getD, List.getElem?_eq_none ht]; rfl
  · obtain ⟨hm, hbc'⟩ := hbox b cs hbc
    rcases h.box b cs hbc' with g0 | ⟨cur, e, g1, g2, g3, g4, g5⟩
    · exact .inl g0
    refine .inr ⟨cur, e, g1, g2, g3, g4, fun j c u hc hu => fewer _ _ _ (fun hbe => ?_) (g5 j c u hc hu)⟩
    rcases hn with hn | hn
    · rw [hbe] at hn; simp at hn
    · rw [Bool.and_eq_true] at hn
      have hlt := boxAt_lt hbc
      have : (s.forget ts bs).boxes[b]? = some (some cs) := by
        have hbc2 := hbc
        unfold boxAt at hbc2
        rw [List.getD_eq_getElem?_getD, List.getElem?_eq_getElem hlt] at hbc2
        rw [List.getElem?_eq_getElem hlt]
        simpa using hbc2
      have h1 := List.all_eq_true.1 hn.2 _ (List.mem_of_getElem? this)
      exact List.all_eq_true.1 h1 c (List.mem_of_getElem? hc)
theorem Inv.tidy {tmps : Array Value} (h : Inv P s tmps w F N Ow bm) (ts bs : List Nat) : Inv P (s.tidy ts bs) tmps w F N Ow bm ∧ (s.tidy ts bs).boxes.length = s.boxes.length := by
  have h0 := h.again (ts := ts) (bs := []) (by simp [St.again, St.noBox, guarded]; rfl)
  cases bs with
  | nil => exact h0
  | cons b bs =>
    simp only [St.tidy]
    cases hs : s.again ts ((b :: bs).filter fun b => !(s.forget ts []).refs.contains b) with
    | some s' => exact h.again hs
    | none => exact h0
theorem Step.tidy {s' : (St m)} {a' : Act} {w' : World} (h : Step P N nt s' a w F Ow bm a' w') (ts bs : List Nat) : Step P N nt (s'.tidy ts bs) a w F Ow bm a' w' := by
  obtain ⟨F1, O1, b1, h1, h2⟩ := h
  exact ⟨F1, O1, b1, (h1.tidy ts bs).1, h2⟩
theorem Inv.dropC {tmps : Array Value} (h : Inv P s tmps w F N Ow bm) (d : Nat → List Nat × List Nat) (c : Operand) : Inv P (s.dropC d c) tmps w F N Ow bm ∧ (s.dropC d c).boxes.length = s.boxes.length := by
  cases c with
  | tmp t =>
    exact h.tidy (d t).1 (d t).2
  | _ => exact ⟨h, rfl⟩
theorem tidy_length (s : (St m)) (ts bs : List Nat) : (s.tidy ts bs).boxes.length = s.boxes.length := by
  have key : ∀ (s : (St m)) ts bs, (s.forget ts bs).boxes.length = s.boxes.length := fun s ts bs => (setNone_get bs s.boxes).1
  cases bs with
  | nil => exact key _ _ _
  | cons b bs =>
    simp only [St.tidy]
    cases hs : s.again ts ((b :: bs).filter fun b => !(s.forget ts []).refs.contains b) with
    | some s' =>
      unfold St.again at hs
      obtain ⟨_, hs⟩ := guarded_eq hs
      simp only [Option.some.injEq] at hs
      subst hs
      exact key _ _ _
    | none => exact key _ _ _
theorem asLeaves_len : ∀ {cs : List (SV m)} {ls : List (Leaf m)}, asLeaves cs = some ls → ls.length = cs.length
  | [], ls, h => by simp only [asLeaves, Option.some.injEq] at h; subst h; rfl
  | c :: r, ls, h => by
    simp only [asLeaves, Option.bind_eq_some_iff, Option.map_eq_some_iff] at h
    obtain ⟨l, _, ls', h1, rfl⟩ := h
    simp [asLeaves_len h1]
theorem asLeaves_at : ∀ {cs : List (SV m)} {ls : List (Leaf m)} {j : Nat} {l : Leaf m}, asLeaves cs = some ls → ls[j]? = some l → ∃ c, cs[j]? = some c ∧ asLeaf c = some l
  | [], ls, j, l, h, hj => by simp only [asLeaves, Option.some.injEq] at h; subst h; simp at hj
  | c :: r, ls, j, l, h, hj => by
    simp only [asLeaves, Option.bind_eq_some_iff, Option.map_eq_some_iff] at h
    obtain ⟨l', h0, ls', h1, rfl⟩ := h
    cases j with
    | zero => simp at hj; subst hj; exact ⟨c, rfl, h0⟩
    | succ j => simp at hj; obtain ⟨c', a, b⟩ := asLeaves_at h1 hj; exact ⟨c', by simpa using a, b⟩
theorem RepS.asLeaf {w : World} {F : Fr} {Ow : Own} {bm : Nat → Nat} {al : Nat → Bool} {loc : Loc} {x : (SV m)} {v : Value} {l : Leaf m} (h : RepS P w F N Ow bm al loc x v) (hl : asLeaf x = some l) : RepL w F N l v := by
  cases x <;> simp only [Vs.asLeaf, Option.some.injEq] at hl <;> try (cases hl; done)
  · subst hl; exact h
  · subst hl; exact RepO.leaf h
theorem kCaps_len {b : Nat} : ∀ {caps : List (SV m)} {cs : List (Option (Nat × Nat))}, kCaps b caps = some cs → caps.length = cs.length
  | [], cs, h => by simp only [kCaps, Option.some.injEq] at h; subst h; rfl
  | x :: r, cs, h => by
    cases x <;> simp only [kCaps] at h <;> try (simp at h; done)
    split at h
    · split at h
      · obtain ⟨l, h1, rfl⟩ := Option.map_eq_some_iff.1 h
        simp [kCaps_len h1]
      · simp at h
    · obtain ⟨l, h1, rfl⟩ := Option.map_eq_some_iff.1 h
      simp [kCaps_len h1]
theorem kCaps_get {b : Nat} : ∀ {caps : List (SV m)} {cs : List (Option (Nat × Nat))} {j : Nat} {c : Option (Nat × Nat)}, kCaps b caps = some cs → cs[j]? = some c →
    ∃ x, caps[j]? = some x ∧ match c with | none => x = .ptr b 0 | some p => x = .ptr p.1 p.2 ∧ p.1 ≠ b
  | [], cs, j, c, h, hj => by simp only [kCaps, Option.some.injEq] at h; subst h; simp at hj
  | x :: r, cs, j, c, h, hj => by
    cases x <;> simp only [kCaps] at h <;> try (simp at h; done)
    split at h
    · rename_i hb
      split at h
      · rename_i ho
        obtain ⟨l, h1, rfl⟩ := Option.map_eq_some_iff.1 h
        cases j with
        | zero => simp at hj; subst hj; exact ⟨_, rfl, by rw [hb, ho]⟩
        | succ j => obtain ⟨x, a, k⟩ := kCaps_get h1 (by simpa using hj); exact ⟨x, by simpa using a, k⟩
      · simp at h
    · rename_i hb
      obtain ⟨l, h1, rfl⟩ := Option.map_eq_some_iff.1 h
      cases j with
      | zero => simp at hj; subst hj; exact ⟨_, rfl, rfl, hb⟩
      | succ j => obtain ⟨x, a, k⟩ := kCaps_get h1 (by simpa using hj); exact ⟨x, by simpa using a, k⟩
theorem RepF.kal {w : World} {F : Fr} {bm : Nat → Nat} {al : Nat → Bool} {b : Nat} {f : FuncId} {cs : List (Option (Nat × Nat))} {v : Value} (h : RepF (m := m) w F N bm al (.kfn f cs) v) (hb : b ∈ kIds cs) : al b = true := by
  obtain ⟨g, o, vs, e, ho, hc, hs, hr⟩ := h
  obtain ⟨c, hc, hbc⟩ := List.mem_flatMap.1 hb
  obtain ⟨j, hj, hjc⟩ := List.getElem_of_mem hc
  have hu : vs[j]? = some (vs[j]'(by rw [hs]; exact hj)) := Array.getElem?_eq_getElem _
  have := hr j c _ (by rw [List.getElem?_eq_getElem hj, hjc]) hu
  cases c with
  | none => simp at hbc
  | some p =>
    have hb1 : b = p.1 := by simpa using hbc
    rw [hb1]
    exact this.2
theorem RepF.kfew {w : World} {F : Fr} {bm : Nat → Nat} {al al' : Nat → Bool} {b : Nat} {f : FuncId} {cs : List (Option (Nat × Nat))} {v : Value} (h : RepF (m := m) w F N bm al (.kfn f cs) v) (hn : b ∉ kIds cs) (ha : ∀ b', b' ≠ b → al b' = true → al' b' = true) : RepF (m := m) w F N bm al' (.kfn f cs) v := by
  obtain ⟨g, o, vs, e, ho, hc, hs, hr⟩ := h
  refine ⟨g, o, vs, e, ho, hc, hs, fun j c u a k => ?_⟩
  have := hr j c u a k
  cases c with
  | none => exact this
  | some p =>
    have hp : p.1 ∈ kIds cs := List.mem_flatMap.2 ⟨_, List.mem_of_getElem? a, by simp⟩
    obtain ⟨h1, h2⟩ := (this : u = .pointer (some ⟨bm p.1, p.2, none⟩) ∧ al p.1 = true)
    exact ⟨h1, ha p.1 (fun hx => hn (hx ▸ hp)) h2⟩
theorem RepF.to_s {w : World} {F : Fr} {Ow : Own} {bm : Nat → Nat} {al : Nat → Bool} {loc : Loc} {x : (SV m)} {v : Value} (h : RepF w F N bm al x v) : RepS P w F N Ow bm al loc x v := by
  cases x <;> first | exact h | exact h.elim
theorem RepF.frz {F' : Fr} {al al' : Nat → Bool} {b : Nat} {ls : List (Leaf m)} {vals : List Value} (hF : ∀ g, F g ≤ F' g) (hb : ls.length ≤ F' (bm b)) (hn : N.n ≤ bm b) (hr : RepR w F' N ls vals) (hc : ∀ (j : Nat) (u : Value), vals[j]? = some u → w.cell? ⟨bm b, j, none⟩ = some u)
    (ha : ∀ b', b' ≠ b → al b' = true → al' b' = true) {x : (SV m)} {v : Value} (h : RepF w F N bm al x v) : RepF w F' N bm al' (x.frzF b ls) v := by
  have k : Keeps N w F w F' := .mk' (fun _ _ _ => rfl) hF (fun _ h => h) fun _ _ h => h
  have h := h.keeps k
  cases x with
  | ptr b' o =>
    simp only [SV.frzF]
    simp only [RepF] at h
    split
    · rename_i e
      subst e
      refine ⟨bm b', 0, vals, by rw [Nat.zero_add]; exact h.1, by omega, ⟨by cases m <;> trivial, fun hz => absurd (N.lt _ hz) (by omega)⟩, hr, fun j u hj => by rw [Nat.zero_add]; exact hc j u hj⟩
    · rename_i e
      exact ⟨h.1, ha _ e h.2⟩
  | bsl b' z lo n =>
    simp only [SV.frzF]
    split
    · trivial
    · rename_i e
      exact ⟨h.1, ha _ e h.2⟩
  | kfn f cs =>
    simp only [SV.frzF]
    split
    · trivial
    · rename_i e
      exact h.kfew (by simpa using e) ha
  | _ => exact h
theorem RepF.frk {F' : Fr} {al al' : Nat → Bool} {b : Nat} {f : FuncId} {caps : List (SV m)} {cs : List (Option (Nat × Nat))} {vs : Array Value} (hF : ∀ g, F g ≤ F' g) (hb : 0 < F' (bm b)) (hn : N.n ≤ bm b) (hk : kCaps b caps = some cs)
    (hc : w.cell? ⟨bm b, 0, none⟩ = some (.func (.func f) #[] vs)) (hs : vs.size = caps.length) (hr : ∀ (j : Nat) (c : (SV m)) (u : Value), caps[j]? = some c → vs[j]? = some u → RepF w F N bm al c u)
    (ha : ∀ b', b' ≠ b → al b' = true → al' b' = true) {x : (SV m)} {v : Value} (h : RepF w F N bm al x v) : RepF w F' N bm al' (x.frkF b f cs) v := by
  have k : Keeps N w F w F' := .mk' (fun _ _ _ => rfl) hF (fun _ h => h) fun _ _ h => h
  have h := h.keeps k
  cases x with
  | ptr b' o =>
    simp only [SV.frkF]
    simp only [RepF] at h
    split
    · rename_i e
      subst e
      split
      · rename_i e0
        subst e0
        refine ⟨bm b', 0, vs, h.1, ⟨hb, by cases hz : N.Z (bm b') with | false => rfl | true => exact absurd (N.lt _ hz) (by omega)⟩, hc, by rw [hs, kCaps_len hk], fun j c u hj hu => ?_⟩
        rw [h.1]
        obtain ⟨c0, h0, h1⟩ := kCaps_get hk hj
        have := hr j c0 u h0 hu
        cases c with
        | none =>
          obtain rfl : c0 = .ptr b' 0 := h1
          exact this.1
        | some p =>
          obtain ⟨rfl, hne⟩ : c0 = .ptr p.1 p.2 ∧ p.1 ≠ b' := h1
          exact ⟨this.1, ha _ hne this.2⟩
      · trivial
    · rename_i e
      exact ⟨h.1, ha _ e h.2⟩
  | bsl b' z lo n =>
    simp only [SV.frkF]
    split
    · trivial
    · rename_i e
      exact ⟨h.1, ha _ e h.2⟩
  | kfn f' cs' =>
    simp only [SV.frkF]
    split
    · trivial
    · rename_i e
      exact h.kfew (by simpa using e) ha
  | _ => exact h
theorem Inv.froz {tmps : Array Value} (h : Inv P s tmps w F N Ow bm) {b : Nat} {cs : List (SV m)} (hcs : boxAt s.boxes b = some cs) (hne : cs ≠ []) (φ : (SV m) → (SV m)) (hany : φ .any = .any)
    (fr : ∀ (al' : Nat → Bool), (∀ b', b' ≠ b → s.al b' = true → al' b' = true) → ∀ (x : (SV m)) (v : Value), RepF w F N bm s.al x v → RepF w (fun g => if g = bm b then cs.length else F g) N bm al' (φ x) v) :
    ∃ F' Ow', Inv P (s.froz b φ) tmps w F' N Ow' bm ∧ Far N w F Ow w F' Ow' := by
  obtain ⟨cur, e, g1, g2, g3, g4, g5⟩ := (h.box b cs hcs).resolve_left hne
  have hlt := boxAt_lt hcs
  let F' : Fr := fun g => if g = bm b then cs.length else F g
  let Ow' : Own := fun g => if g = bm b then none else Ow g
  have hF : ∀ g, F g ≤ F' g := fun g => by
    show F g ≤ if g = bm b then cs.length else F g
    split
    · rename_i hg; rw [hg, g3]; exact Nat.zero_le _
    · exact Nat.le_refl _
  have kp : Keeps N w F w F' := .mk' (fun _ _ _ => rfl) hF (fun _ h => h) fun _ _ h => h
  let al' : Nat → Bool := fun b' => (boxAt ((s.boxes.set b none).map (Option.map (List.map (SV.lift φ)))) b').isSome
  have bat : ∀ b', boxAt ((s.boxes.set b none).map (Option.map (List.map (SV.lift φ)))) b' = if b' = b then none else (boxAt s.boxes b').map (List.map (SV.lift φ)) := fun b' => by
    have e1 : boxAt ((s.boxes.set b none).map (Option.map (List.map (SV.lift φ)))) b' = (boxAt (s.boxes.set b none) b').map (List.map (SV.lift φ)) := by
      unfold boxAt
      rw [List.getD_eq_getElem?_getD, List.getD_eq_getElem?_getD, List.getElem?_map]
      cases (s.boxes.set b none)[b']? <;> rfl
    rw [e1]
    split
    · rename_i hb; subst hb; rw [boxAt_set_self hlt]; rfl
    · rename_i hb; rw [boxAt_set_ne hb]
  have ha : ∀ b', b' ≠ b → s.al b' = true → al' b' = true := fun b' hb hal => by
    show (boxAt ((s.boxes.set b none).map (Option.map (List.map (SV.lift φ)))) b').isSome = true
    rw [bat, if_neg hb]
    have : (boxAt s.boxes b').isSome = true := hal
    cases hx : boxAt s.boxes b' with
    | none => rw [hx] at this; simp at this
    | some y => rfl
  have fr := fr al' ha
  have hOw : ∀ (loc : Loc), (∀ k, loc ≠ .blk k) → ∀ g, Ow g = some loc → w.heap[g]? = w.heap[g]? ∧ F' g = F g ∧ Ow' g = some loc := fun loc hloc g hg => by
    have hgb : g ≠ bm b := fun hx => by
      subst hx
      rw [g4] at hg
      simp only [Option.some.injEq] at hg
      exact hloc b hg.symm
    exact ⟨rfl, if_neg hgb, by show (if g = bm b then none else Ow g) = _; rw [if_neg hgb]; exact hg⟩
  have conv : ∀ (loc : Loc) (x : (SV m)) (v : Value), (∀ k, loc ≠ .blk k) → RepS P w F N Ow bm s.al loc x v → RepS P w F' N Ow' bm al' loc (x.lift φ) v := fun loc x v hloc hx => by
    have many : ∀ (l : List (SV m)) (vs : Array Value), (∀ (j : Nat) (c : (SV m)) (u : Value), l[j]? = some c → vs[j]? = some u → RepF w F N bm s.al c u) →
        ∀ (j : Nat) (c : (SV m)) (u : Value), (l.map φ)[j]? = some c → vs[j]? = some u → RepF w F' N bm al' c u := fun l vs hl j c u hj hu => by
      simp only [List.getElem?_map, Option.map_eq_some_iff] at hj
      obtain ⟨c', hc', rfl⟩ := hj
      exact fr _ _ (hl j c' u hc' hu)
    cases x with
    | own eo es => exact RepO.keeps kp hx (hOw loc hloc)
    | raw eo es => exact RepO.keeps kp hx (hOw loc hloc)
    | fn g caps =>
      obtain ⟨vs, e1, e2, e3⟩ := hx
      exact ⟨vs, e1, by simpa using e2, many _ _ e3⟩
    | tup cs =>
      obtain ⟨vs, e1, e2, e3⟩ := hx
      exact ⟨vs, e1, by simpa using e2, many _ _ e3⟩
    | any => exact (fr .any v trivial).to_s
    | skip => exact (fr .skip v hx).to_s
    | leaf l => exact (fr (.leaf l) v hx).to_s
    | agg l => exact (fr (.agg l) v hx).to_s
    | nilptr => exact (fr .nilptr v hx).to_s
    | nilface => exact (fr .nilface v hx).to_s
    | eptr c e o => exact (fr (.eptr c e o) v hx).to_s
    | ptr b' o => exact (fr (.ptr b' o) v hx).to_s
    | bsl b' z lo n => exact (fr (.bsl b' z lo n) v hx).to_s
    | kfn f cs => exact (fr (.kfn f cs) v hx).to_s
  refine ⟨F', Ow', ⟨by rw [← h.len]; simp [St.froz], fun t => ?_, fun b' c' hb' => ?_, ⟨h.low.le, fun k hk => ?_, h.low.size⟩, fun g hg => ?_, fun b' c' hb' => ?_, fun g hz => ?_⟩, ⟨rfl, rfl, rfl, Nat.le_refl _, kp, fun g _ hg => ⟨fun _ => rfl, ?_, ?_⟩⟩⟩
  · have e1 : (s.tmps.map (SV.lift φ)).getD t .any = (s.tmps.getD t .any).lift φ := by
      rw [List.getD_eq_getElem?_getD, List.getD_eq_getElem?_getD, List.getElem?_map]
      cases s.tmps[t]? with
      | none => exact hany.symm
      | some y => rfl
    show RepS P w F' N Ow' bm al' (.tmp t) ((s.tmps.map (SV.lift φ)).getD t .any) _
    rw [e1]
    exact conv _ _ _ (fun k hk => by simp at hk) (h.slot t)
  · have hb2 : boxAt ((s.boxes.set b none).map (Option.map (List.map (SV.lift φ)))) b' = some c' := hb'
    rw [bat] at hb2
    split at hb2
    · simp at hb2
    · rename_i hne
      rw [Option.map_eq_some_iff] at hb2
      obtain ⟨c0, hc0, rfl⟩ := hb2
      rcases h.box b' c0 hc0 with k0 | ⟨cur', e', k1, k2, k3, k4, k5⟩
      · subst k0; exact .inl rfl
      have hbb : bm b' ≠ bm b := fun hx => by
        rw [hx, g4] at k4
        simp only [Option.some.injEq, Loc.blk.injEq] at k4
        exact hne k4.symm
      refine .inr ⟨cur', e', k1, by simpa using k2, (if_neg hbb).trans k3, by show (if bm b' = bm b then none else Ow (bm b')) = _; rw [if_neg hbb]; exact k4, fun j c u hj hu => ?_⟩
      simp only [List.getElem?_map, Option.map_eq_some_iff] at hj
      obtain ⟨c1, hc1, rfl⟩ := hj
      exact conv _ _ _ (fun k hk => by simp at hk) (k5 j c1 u hc1 hu)
  · obtain ⟨h1, h2, h3⟩ := h.low.know k hk
    exact ⟨Nat.lt_of_lt_of_le h1 (hF _), h2, h3⟩
  · have hgb : g ≠ bm b := fun hx => by
      subst hx
      have := (Array.getElem?_eq_some_iff.1 g1).1
      omega
    exact ⟨(if_neg hgb).trans (h.new g hg).1, by show (if g = bm b then none else Ow g) = none; rw [if_neg hgb]; exact (h.new g hg).2⟩
  · have hb2 : boxAt ((s.boxes.set b none).map (Option.map (List.map (SV.lift φ)))) b' = some c' := hb'
    rw [bat] at hb2
    split at hb2
    · simp at hb2
    · rw [Option.map_eq_some_iff] at hb2
      obtain ⟨c0, hc0, _⟩ := hb2
      exact h.bmn b' c0 hc0
  · refine ⟨?_, (h.zow g hz).2⟩
    show (if g = bm b then none else Ow g) = none
    split
    · rfl
    · exact (h.zow g hz).1
  · exact if_neg fun hx => by rw [hx, g4] at hg; simp at hg
  · show (if g = bm b then none else Ow g) = none
    split
    · rfl
    · exact hg
theorem Inv.freeze1 {tmps : Array Value} (h : Inv P s tmps w F N Ow bm) (b : Nat) : ∃ F' Ow', Inv P (s.freeze1 b) tmps w F' N Ow' bm ∧ Far N w F Ow w F' Ow' := by
  have stay : ∃ F' Ow', Inv P s tmps w F' N Ow' bm ∧ Far N w F Ow w F' Ow' := ⟨F, Ow, h, Far.refl _ _ _⟩
  unfold St.freeze1
  split
  · exact stay
  · rename_i l0 ls0 hls
    rw [Option.bind_eq_some_iff] at hls
    obtain ⟨cs, hcs, hls⟩ := hls
    have hne : cs ≠ [] := by rintro rfl; simp [asLeaves] at hls
    generalize l0 :: ls0 = ls at hls
    obtain ⟨cur, e, g1, g2, g3, g4, g5⟩ := (h.box b cs hcs).resolve_left hne
    have hF : ∀ g, F g ≤ (fun g => if g = bm b then cs.length else F g) g := fun g => by
      show F g ≤ if g = bm b then cs.length else F g
      split
      · rename_i hg; rw [hg, g3]; exact Nat.zero_le _
      · exact Nat.le_refl _
    have kp : Keeps N w F w (fun g => if g = bm b then cs.length else F g) := .mk' (fun _ _ _ => rfl) hF (fun _ h => h) fun _ _ h => h
    refine h.froz hcs hne (SV.frzF b ls) rfl fun al' ha x v hx => hx.frz (vals := cur.toList.take cs.length) hF ?_ (h.bmn b cs hcs) ⟨?_, fun j l u hl hu => ?_⟩ (fun j u hj => ?_) ha
    · show ls.length ≤ if bm b = bm b then cs.length else F (bm b)
      rw [if_pos rfl, asLeaves_len hls]; exact Nat.le_refl _
    · rw [asLeaves_len hls, List.length_take]
      have := Array.length_toList (xs := cur)
      omega
    · obtain ⟨c, hc, hcl⟩ := asLeaves_at hls hl
      rw [List.getElem?_take] at hu
      split at hu
      · exact ((g5 j c u hc (by simpa using hu)).asLeaf hcl).keeps kp
      · simp at hu
    · rw [List.getElem?_take] at hj
      split at hj
      · simp only [World.cell?, g1]
        simpa using hj
      · simp at hj
  · split
    · rename_i f caps hcs
      split
      · rename_i cs hk
        obtain ⟨cur, e, g1, g2, g3, g4, g5⟩ := (h.box b _ hcs).resolve_left (by simp)
        have hsz : 0 < cur.size := g2
        obtain ⟨vs, e1, e2, e3⟩ := g5 0 (.fn f caps) cur[0] rfl (by simp [hsz])
        have hF : ∀ g, F g ≤ (fun g => if g = bm b then [SV.fn (m := m) f caps].length else F g) g := fun g => by
          show F g ≤ if g = bm b then 1 else F g
          split
          · rename_i hg; rw [hg, g3]; exact Nat.zero_le _
          · exact Nat.le_refl _
        refine h.froz hcs (by simp) (SV.frkF b f cs) rfl fun al' ha x v hx => hx.frk hF (by show 0 < if bm b = bm b then 1 else F (bm b); rw [if_pos rfl]; exact Nat.one_pos) (h.bmn b _ hcs) hk ?_ e2 e3 ha
        simp only [World.cell?, g1]
        rw [← e1]
        simp [hsz]
      · exact stay
    · exact stay
theorem froz_length (s : (St m)) (b : Nat) (φ : (SV m) → (SV m)) : (s.froz b φ).boxes.length = s.boxes.length := by simp [St.froz]
theorem freeze1_length (s : (St m)) (b : Nat) : (s.freeze1 b).boxes.length = s.boxes.length := by
  unfold St.freeze1
  split
  · rfl
  · exact froz_length _ _ _
  · split
    · split
      · exact froz_length _ _ _
      · rfl
    · rfl
theorem mend_length (s : (St m)) (nt t k : Nat) : (s.mend nt t k).boxes.length = s.boxes.length := by
  unfold St.mend
  split <;> try rfl
  split <;> simp
theorem Inv.reslot {tmps : Array Value} (h : Inv P s tmps w F N Ow bm) {t : Nat} {v : SV m} (hv : RepS P w F N Ow bm s.al (.tmp t) v (tmps.getD t undef)) : Inv P { s with tmps := s.tmps.set t v } tmps w F N Ow bm := h.forget hv
theorem Inv.mend {tmps : Array Value} (h : Inv P s tmps w F N Ow bm) (nt t k : Nat) : ∃ F' Ow' bm', Inv P (s.mend nt t k) tmps w F' N Ow' bm' ∧ Far N w F Ow w F' Ow' ∧ ∀ b, nt ≤ b → bm' b = bm b := by
  have stay : ∃ F' Ow' bm', Inv P s tmps w F' N Ow' bm' ∧ Far N w F Ow w F' Ow' ∧ ∀ b, nt ≤ b → bm' b = bm b := ⟨F, Ow, bm, h, Far.refl _ _ _, fun _ _ => rfl⟩
  have hs := h.slot t
  have hany : Inv P { s with tmps := s.tmps.set t .any } tmps w F N Ow bm := h.reslot RepS.any
  have hlt : ∀ v : SV m, s.tmps.getD t .any = v → v ≠ .any → t < s.tmps.length := fun v hv hne => by
    rcases Nat.lt_or_ge t s.tmps.length with h' | h'
    · exact h'
    · rw [List.getD_eq_getElem?_getD, List.getElem?_eq_none h'] at hv
      exact absurd hv.symm hne
  have hno : ¬ St.holds { s with tmps := s.tmps.set t .any } (.tmp t) := by
    show ¬ isOwn ((s.tmps.set t .any).getD t .any) = true
    by_cases hl : t < s.tmps.length
    · rw [List.getD_eq_getElem?_getD, List.getElem?_set_self hl]; simp [isOwn]
    · rw [List.getD_eq_getElem?_getD, List.getElem?_eq_none (by simpa using hl)]; simp [isOwn]
  unfold St.mend
  split
  · rename_i e es he
    rw [he] at hs
    have hO : RepO P w F N Ow (.tmp t) true e es (tmps.getD t undef) := hs
    rcases hO with ⟨h1, rfl⟩ | ⟨g, cap, cur, e', i, vals, hn, he', hi, hz, hv, hg, hc, hm, hsz, hx, ho, hf, ht, hr⟩
    · refine ⟨F, Ow, bm, h.reslot ?_, Far.refl _ _ _, fun _ _ => rfl⟩
      simp only [RepS]
      exact .inl ⟨h1, rfl⟩
    · have hf0 : F g = 0 := by simpa using hf
      let F' : Fr := fun k => if k = g then es.length * i.size else F k
      have hle : ∀ k, F k ≤ F' k := fun k => by
        show F k ≤ if k = g then es.length * i.size else F k
        split
        · rename_i hkg; rw [hkg, hf0]; exact Nat.zero_le _
        · exact Nat.le_refl _
      have kp : Keeps N w F w F' := .mk' (fun _ _ _ => rfl) hle (fun _ h => h) fun _ _ h => h
      have hgl : g < w.heap.size := (Array.getElem?_eq_some_iff.1 hg).1
      have h2 := hany.to (F' := F') (Ow' := Ow) (bm' := bm) kp (Nat.le_refl _) (fun _ _ => rfl) (fun k loc hk hl => ⟨rfl, if_neg fun hkg => by
        subst hkg
        rw [ho] at hk
        cases hk
        exact hno hl, hk⟩) (fun k hk => ⟨(if_neg (by omega)).trans (h.new k hk).1, (h.new k hk).2⟩) h.zow
      have h3 := h2.reslot (t := t) (v := .own e es) (by
        simp only [RepS]
        exact .inr ⟨g, cap, cur, e', i, vals, hn, he', hi, hz, hv, hg, hc, hm, hsz, hx, ho, by simp [F'], ht, hr.keeps kp⟩)
      simp only [List.set_set] at h3
      exact ⟨F', Ow, bm, h3, ⟨rfl, rfl, rfl, Nat.le_refl _, kp, fun k _ hk => ⟨fun _ => rfl, if_neg (fun hkg => by subst hkg; rw [ho] at hk; simp at hk), hk⟩⟩, fun _ _ => rfl⟩
  · rename_i e he
    rw [he] at hs
    have hO : RepO P w F N Ow (.tmp t) false e [] (tmps.getD t undef) := hs
    refine ⟨F, Ow, bm, h.reslot ?_, Far.refl _ _ _, fun _ _ => rfl⟩
    simp only [RepS]
    rcases hO with ⟨h1, _⟩ | ⟨g, cap, cur, e', i, vals, hn, he', hi, hz, hv, hg, hc, hm, hsz, hx, ho, hf, ht, hr⟩
    · exact .inl ⟨h1, rfl⟩
    · exact .inr ⟨g, cap, cur, e', i, vals, hn, he', hi, hz, hv, hg, hc, hm, hsz, hx, ho, by simpa using hf, ht, hr⟩
  · rename_i z e es he
    split
    · rename_i hb hd
      obtain ⟨htn, htb⟩ := of_decide_eq_true hd
      rw [he] at hs
      have hO : RepO P w F N Ow (.tmp t) true e es (tmps.getD t undef) := hs
      have hal : ∀ b, s.al b = true → b ≠ t := fun b hb' hbt => by subst hbt; simp [St.al, hb] at hb'
      have hself : boxAt (s.boxes.set t (some (rowC es))) t = some (rowC es) := boxAt_set_self htb
      rcases hO with ⟨h1, rfl⟩ | ⟨g, cap, cur, e', i, vals, hn, he', hi, hz, hv, hg, hc, hm, hsz, hx, ho, hf, ht, hr⟩
      · have h2 := hany.to (F' := F) (Ow' := Ow) (bm' := fun b => if b = t then w.heap.size else bm b) (Keeps.refl _ _) (Nat.le_refl _) (fun b hb' => if_neg (hal b hb')) (fun k loc hk _ => ⟨rfl, rfl, hk⟩) h.new h.zow
        have hp : ∀ b, s.al b = true → (fun b => if b = t then w.heap.size else bm b) b = (fun b => if b = t then w.heap.size else bm b) b ∧ (boxAt (s.boxes.set t (some (rowC ([] : List (List (Leaf m)))))) b).isSome = true := fun b hb' => ⟨rfl, by rw [boxAt_set_ne (hal b hb')]; exact hb'⟩
        have h3 : Inv P { tmps := s.tmps.set t .any, boxes := s.boxes.set t (some (rowC ([] : List (List (Leaf m))))) } tmps w F N Ow (fun b => if b = t then w.heap.size else bm b) := by
          refine ⟨h2.len, fun u => (h2.slot u).to (Keeps.refl _ _) hp fun _ k hk => ⟨rfl, rfl, hk⟩, fun b cs hbx => ?_, h2.low, h2.new, fun b cs hbx => ?_, h2.zow⟩
          · by_cases hbt : b = t
            · subst hbt
              rw [hself] at hbx
              cases hbx
              exact .inl rfl
            · have hbx' : boxAt s.boxes b = some cs := by rw [← boxAt_set_ne (v := some (rowC ([] : List (List (Leaf m))))) hbt]; exact hbx
              rcases h2.box b cs hbx' with g0 | ⟨c2, e2, q1, q2, q3, q4, q5⟩
              · exact .inl g0
              · exact .inr ⟨c2, e2, q1, q2, q3, q4, fun j c u hc hu => (q5 j c u hc hu).to (Keeps.refl _ _) hp fun _ k hk => ⟨rfl, rfl, hk⟩⟩
          · by_cases hbt : b = t
            · subst hbt
              show N.n ≤ if b = b then w.heap.size else bm b
              rw [if_pos rfl]; exact h.low.le
            · have hbx' : boxAt s.boxes b = some cs := by rw [← boxAt_set_ne (v := some (rowC ([] : List (List (Leaf m))))) hbt]; exact hbx
              exact h2.bmn b cs hbx'
        have h4 := h3.reslot (t := t) (v := .bsl t z 0 0) (by
          have hb2 : BslAt (fun b => if b = t then w.heap.size else bm b) (St.al { tmps := s.tmps.set t .any, boxes := s.boxes.set t (some (rowC ([] : List (List (Leaf m))))) }) t z 0 0 (tmps.getD t undef) := ⟨.inl ⟨rfl, none, 0, h1⟩, by show (boxAt (s.boxes.set t (some (rowC ([] : List (List (Leaf m)))))) t).isSome = true; rw [hself]; rfl⟩
          simpa only [RepS, RepF, BslAt] using hb2)
        simp only [List.set_set] at h4
        exact ⟨F, Ow, _, h4, Far.refl _ _ _, fun b hb' => if_neg (fun hbt => by omega)⟩
      · have hf0 : F g = 0 := by simpa using hf
        have hgl : g < w.heap.size := (Array.getElem?_eq_some_iff.1 hg).1
        let Ow' : Own := fun k => if k = g then some (.blk t) else Ow k
        have h2 := hany.to (F' := F) (Ow' := Ow') (bm' := fun b => if b = t then g else bm b) (Keeps.refl _ _) (Nat.le_refl _) (fun b hb' => if_neg (hal b hb')) (fun k loc hk hl => ⟨rfl, rfl, by
          show (if k = g then some (.blk t) else Ow k) = _
          rw [if_neg, hk]
          intro hkg
          subst hkg
          rw [ho] at hk
          cases hk
          exact hno hl⟩) (fun k hk => ⟨(h.new k hk).1, by show (if k = g then some (.blk t) else Ow k) = none; rw [if_neg (by omega)]; exact (h.new k hk).2⟩) (fun k hk => ⟨by
            show (if k = g then some (.blk t) else Ow k) = none
            rw [if_neg (fun hkg => by have := N.lt k hk; omega)]; exact (h.zow k hk).1, (h.zow k hk).2⟩)
        have hrl : (rowC es).length = es.length * i.size := by simp only [rowC, List.length_map]; exact flatten_length hx
        have hmul : es.length * i.size ≤ cap * i.size := Nat.mul_le_mul_right _ hc
        have h3 := h2.addBox (d := t) (cs := rowC es) (cur := cur) (e := e') hb (by simpa using hg) (by rw [hrl, hsz]; exact hmul) (by simpa using hf0) (by simp [Ow']) (by simpa using hn) (fun j c u hcj hu => by
          simp only [rowC, List.getElem?_map, Option.map_eq_some_iff] at hcj
          obtain ⟨l, hl, rfl⟩ := hcj
          have hj : j < es.length * i.size := by rw [← flatten_length hx]; exact (List.getElem?_eq_some_iff.1 hl).1
          refine RepS.leaf (hr.2 j l u hl ?_)
          rw [← ht, List.getElem?_take, if_pos hj]
          simpa using hu)
        have h4 := h3.reslot (t := t) (v := .bsl t z 0 es.length) (by
          simp only [RepS, RepF]
          refine ⟨.inr ⟨cap, by rw [hv]; simp, hc⟩, ?_⟩
          show (boxAt (s.boxes.set t (some (rowC es))) t).isSome = true
          rw [hself]; rfl)
        simp only [List.set_set] at h4
        exact ⟨F, Ow', _, h4, ⟨rfl, rfl, rfl, Nat.le_refl _, Keeps.refl _ _, fun k _ hk => ⟨fun _ => rfl, rfl, by
          show (if k = g then some (.blk t) else Ow k) = none
          rw [if_neg (fun hkg => by subst hkg; rw [ho] at hk; simp at hk)]; exact hk⟩⟩, fun b hb' => if_neg (fun hbt => by omega)⟩
    · exact stay
  · exact stay
theorem freeze_length (nt : Nat) : ∀ (bs : List Nat) (s : (St m)), (St.freeze nt s bs).boxes.length = s.boxes.length
  | [], _ => rfl
  | b :: bs, s => by
    rw [St.freeze, freeze_length nt bs]
    split
    · exact freeze1_length s b
    · exact mend_length _ _ _ _
theorem Inv.freeze {tmps : Array Value} (nt : Nat) : ∀ (bs : List Nat) {s : (St m)} {F : Fr} {Ow : Own} {bm : Nat → Nat}, Inv P s tmps w F N Ow bm → ∃ F' Ow' bm', Inv P (St.freeze nt s bs) tmps w F' N Ow' bm' ∧ Far N w F Ow w F' Ow' ∧ ∀ b, nt ≤ b → bm' b = bm b
  | [], s, F, Ow, bm, h => ⟨F, Ow, bm, h, Far.refl _ _ _, fun _ _ => rfl⟩
  | b :: bs, s, F, Ow, bm, h => by
    rw [St.freeze]
    split
    · obtain ⟨F2, O2, k1, k2⟩ := h.freeze1 b
      obtain ⟨F3, O3, b3, q1, q2, q3⟩ := Inv.freeze nt bs k1
      exact ⟨F3, O3, b3, q1, k2.trans q2, q3⟩
    · obtain ⟨F2, O2, b2, k1, k2, k3⟩ := h.mend nt (b % 4096) (_ + 1)
      obtain ⟨F3, O3, b3, q1, q2, q3⟩ := Inv.freeze nt bs k1
      exact ⟨F3, O3, b3, q1, k2.trans q2, fun c hc => (q3 c hc).trans (k3 c hc)⟩
theorem Step.freeze (bs : List Nat) {s' : (St m)} {a' : Act} {w' : World} (h : Step P N nt s' a w F Ow bm a' w') : Step P N nt (St.freeze nt s' bs) a w F Ow bm a' w' := by
  obtain ⟨F1, O1, b1, h1, h2, h3, h4⟩ := h
  obtain ⟨F2, O2, b2, k1, k2, k3⟩ := h1.freeze nt bs
  exact ⟨F2, O2, b2, k1, h2.trans k2, fun b hb => (k3 b hb).trans (h3 b hb), h4⟩
def Ends (P : Program) (N : Env) (nt L : Nat) (a : Act) (w : World) (F : Fr) (Ow : Own) (bm : Nat → Nat) : (Out m) → Exit → Act → World → Prop
  | .norm s', .normal, a', w' => Step P N nt s' a w F Ow bm a' w' ∧ s'.boxes.length = L
  | .exit id s', .exit id', a', w' => id = id' ∧ Step P N nt s' a w F Ow bm a' w' ∧ s'.boxes.length = L
  | .ret s', .ret, a', w' => Step P N nt s' a w F Ow bm a' w' ∧ s'.boxes.length = L
  | _, _, _, _ => False
theorem Ends.trans {L : Nat} {s1 : (St m)} {a1 : Act} {w1 : World} (h : Step P N nt s1 a w F Ow bm a1 w1) : ∃ F1 O1 b1, Inv P s1 a1.tmps w1 F1 N O1 b1 ∧ ∀ (out : Out m) ex a2 w2, Ends P N nt L a1 w1 F1 O1 b1 out ex a2 w2 → Ends P N nt L a w F Ow bm out ex a2 w2 := by
  obtain ⟨F1, O1, b1, h1, htr⟩ := h.inv
  refine ⟨F1, O1, b1, h1, fun out ex a2 w2 he => ?_⟩
  cases out <;> cases ex <;> simp only [Ends] at he ⊢
  · exact ⟨htr _ _ _ he.1, he.2⟩
  · exact ⟨he.1, htr _ _ _ he.2.1, he.2.2⟩
  · exact ⟨htr _ _ _ he.1, he.2⟩
abbrev loopN (n : Nat) : ((St m) → Option (Out m)) → ((St m) → Option (St m)) → (St m) → Option (Out m) := fun body again s => rounds body again n s
theorem code_sound (hP : P.follows .mixedOrders = true) {D : (Oracle m)} (hD : DSound P N D) {H : Hints} (hH : H.nt = nt) (n L : Nat) (hL : nt ≤ L) : ∀ (c : Code) (blk : Nat) {β : Type} (k : (Out m) → Option β) (y : β) (s : (St m)) (a : Act) (w : World) (F : Fr) (Ow : Own) (bm : Nat → Nat)
    (Q : Exit → Act → World → Prop), codeK P D H (loopN n) blk c s k = some y → Inv P s a.tmps w F N Ow bm → s.boxes.length = L →
    (∀ out ex a' w', k out = some y → Ends P N nt L a w F Ow bm out ex a' w' → Q ex a' w') → c.wp P Q a w := by
  intro c
  induction c with
  | skip =>
    intro blk β k y s a w F Ow bm Q hc h hl hk
    exact wp_skip (hk _ _ a w hc ⟨Step.refl h, hl⟩)
  | region id ops draw =>
    intro blk β k y s a w F Ow bm Q hc h hl hk
    simp only [codeK] at hc
    obtain ⟨hd, hc⟩ := guarded_eq hc
    rw [stepsK_bind, Option.bind_eq_some_iff] at hc
    obtain ⟨s', hs, hks⟩ := hc
    rw [hH] at hs
    refine region_sound hP hD h (by omega) (fun hdr => by simpa [hdr] using hd) hs fun a' w' hst => hk _ _ _ _ hks ⟨by rw [hH]; exact (hst.tidy _ _).freeze _, by rw [freeze_length, tidy_length, stepsK_boxes _ _ _ _ hs, hl]⟩
  | seq c1 c2 ih1 ih2 =>
    intro blk β k y s a w F Ow bm Q hc h hl hk
    simp only [codeK] at hc
    refine wp_seq (ih1 blk _ y s a w F Ow bm _ hc h hl fun out ex a' w' ho he => ?_)
    cases out <;> cases ex <;> simp only [Ends] at he
    · obtain ⟨hst, hl'⟩ := he
      obtain ⟨F1, O1, b1, h1, htr⟩ := Ends.trans (L := L) hst
      exact ih2 blk k y _ a' w' F1 O1 b1 Q ho h1 hl' fun out ex a2 w2 ho2 he2 => hk out ex a2 w2 ho2 (htr _ _ _ _ he2)
    · exact hk _ _ _ _ ho he
    · exact hk _ _ _ _ ho he
  | cond x c1 c2 ih1 ih2 =>
    intro blk β k y s a w F Ow bm Q hc h hl hk
    simp only [codeK] at hc
    obtain ⟨b, hb, hc⟩ := onBool_eq hc
    have hv := repL_bool ((h.eval (a := a) rfl x).leafOf _ (drop_leaf hb))
    rw [branch_eq] at hc
    cases b
    · exact wp_cond_false hv (ih2 blk k y _ a w F Ow bm Q (by simpa using hc) (h.dropC _ _).1 (by rw [(h.dropC _ _).2, hl]) hk)
    · exact wp_cond_true hv (ih1 blk k y _ a w F Ow bm Q (by simpa using hc) (h.dropC _ _).1 (by rw [(h.dropC _ _).2, hl]) hk)
  | block id c ih =>
    intro blk β k y s a w F Ow bm Q hc h hl hk
    simp only [codeK] at hc
    refine wp_block (ih id _ y s a w F Ow bm _ hc h hl fun out ex a' w' ho he => ?_)
    cases out <;> cases ex <;> simp only [Ends] at he
    · exact hk _ _ _ _ ho he
    · rename_i id1 s1 id2
      obtain ⟨rfl, he⟩ := he
      simp only [Exit.inBlock]
      by_cases hid : id1 = id
      · simp only [blockK, hid, if_true] at ho ⊢
        exact hk _ _ _ _ ho he
      · simp only [blockK, hid, if_false] at ho ⊢
        exact hk _ _ _ _ ho ⟨rfl, he⟩
    · exact hk _ _ _ _ ho he
  | loop c ih =>
    intro blk β k y s a w F Ow bm Q hc h hl hk
    simp only [codeK] at hc
    rw [Option.bind_eq_some_iff] at hc
    obtain ⟨out, hr, hko⟩ := hc
    refine wp_loop_rounds n ?_
    have key : ∀ (q : Nat) (s : (St m)) (a1 : Act) (w1 : World) (F1 : Fr) (O1 : Own) (b1 : Nat → Nat), rounds (fun s => codeK P D H (loopN n) blk c s some) (fun s => s.again (H.clear blk) (H.drop blk)) q s = some out → Inv P s a1.tmps w1 F1 N O1 b1 → s.boxes.length = L →
        (∀ ex a2 w2, Ends P N nt L a1 w1 F1 O1 b1 out ex a2 w2 → Q ex a2 w2) → Code.rounds P c Q q a1 w1 := by
      intro q
      induction q with
      | zero => intro s a1 w1 F1 O1 b1 hr _ _ _; simp [rounds] at hr
      | succ q ihm =>
        intro s a1 w1 F1 O1 b1 hr h1 hl1 hq
        simp only [rounds] at hr
        rw [Option.bind_eq_some_iff] at hr
        obtain ⟨s2, hag, hr⟩ := hr
        rw [Option.bind_eq_some_iff] at hr
        obtain ⟨o, hb, hr⟩ := hr
        obtain ⟨h2, hl2⟩ := h1.again hag
        rw [rounds_succ]
        refine ih blk some o s2 a1 w1 F1 O1 b1 _ hb h2 (by rw [hl2, hl1]) fun out' ex a2 w2 ho he => ?_
        simp only [Option.some.injEq] at ho
        subst ho
        cases out' <;> cases ex <;> simp only [Ends] at he
        · obtain ⟨hst, hl3⟩ := he
          obtain ⟨F3, O3, b3, h3, htr⟩ := Ends.trans (L := L) hst
          exact ihm _ a2 w2 F3 O3 b3 hr h3 hl3 fun ex a4 w4 he4 => hq ex a4 w4 (htr _ _ _ _ he4)
        · simp only [Option.some.injEq] at hr
          subst hr
          exact hq _ _ _ he
        · simp only [Option.some.injEq] at hr
          subst hr
          exact hq _ _ _ he
    exact key n s a w F Ow bm hr h hl fun ex a2 w2 he => hk out ex a2 w2 hko he
  | exit id =>
    intro blk β k y s a w F Ow bm Q hc h hl hk
    exact wp_exit (hk _ _ a w hc ⟨rfl, Step.refl h, hl⟩)
  | ret =>
    intro blk β k y s a w F Ow bm Q hc h hl hk
    exact wp_ret (hk _ _ a w hc ⟨Step.refl h, hl⟩)
  | _ =>
    intro blk β k y s a w F Ow bm Q hc
    simp [codeK] at hc
end
end Go.Vs
end
