/- A call: the callee's frame is told by the arguments and by the boxes that go along; behind it the caller's frame is told again. -/
import Derived.Test.YtdnbagcbdagofaaVVsSound2
namespace Go.Vs
variable {m : Bool}
variable {P : Program} {N : Env}

theorem mem_addId {l : List Nat} {b c : Nat} : c ∈ addId l b ↔ c ∈ l ∨ c = b := by
  unfold addId
  split
  · rename_i h
    constructor
    · exact .inl
    · rintro (h' | rfl)
      · exact h'
      · simpa using h
  · simp
theorem nodup_addId {l : List Nat} {b : Nat} (h : l.Nodup) : (addId l b).Nodup := by
  unfold addId
  split
  · exact h
  · rename_i hb
    rw [List.nodup_append]
    refine ⟨h, by simp, fun x hx y hy => ?_⟩
    simp at hy
    subst hy
    rintro rfl
    exact hb (by simpa using hx)
theorem foldl_addId (m : List Nat) : ∀ (l : List Nat), (l.Nodup → (m.foldl addId l).Nodup) ∧ ∀ c, c ∈ m.foldl addId l ↔ c ∈ l ∨ c ∈ m := by
  induction m with
  | nil => intro l; exact ⟨id, fun c => by simp⟩
  | cons b m ih =>
    intro l
    obtain ⟨h1, h2⟩ := ih (addId l b)
    refine ⟨fun h => h1 (nodup_addId h), fun c => ?_⟩
    rw [List.foldl_cons, h2 c, mem_addId, List.mem_cons]
    constructor
    · rintro ((h | h) | h)
      · exact .inl h
      · exact .inr (.inl h)
      · exact .inr (.inr h)
    · rintro (h | h | h)
      · exact .inl (.inl h)
      · exact .inl (.inr h)
      · exact .inr h
theorem idsOf_nodup (args : List (SV m)) : (idsOf args).Nodup := (foldl_addId _ []).1 List.nodup_nil
theorem mem_idsOf {args : List (SV m)} {c : Nat} : c ∈ idsOf args ↔ ∃ x ∈ args, c ∈ x.boxIds := by
  unfold idsOf
  rw [(foldl_addId _ []).2 c]
  simp

theorem placeIn_get : ∀ {l : List Nat} {b : Nat}, b ∈ l → l[placeIn l b]? = some b
  | [], _, h => by simp at h
  | x :: l, b, h => by
    unfold placeIn
    rw [List.findIdx_cons]
    by_cases hx : x = b
    · simp [hx]
    · have : (x == b) = false := by simpa using hx
      rw [this]
      simp only [cond_false, List.getElem?_cons_succ]
      exact placeIn_get (List.mem_of_ne_of_mem (fun e => hx e.symm) h)
theorem placeIn_of : ∀ {l : List Nat} {i b : Nat}, l.Nodup → l[i]? = some b → placeIn l b = i
  | [], _, _, _, h => by simp at h
  | x :: l, 0, b, _, h => by simp at h; subst h; simp [placeIn, List.findIdx_cons]
  | x :: l, i + 1, b, hn, h => by
    have hb : l[i]? = some b := by simpa using h
    have hx : (x == b) = false := by
      rw [List.nodup_cons] at hn
      simp only [beq_eq_false_iff_ne, ne_eq]
      rintro rfl
      exact hn.1 (List.mem_of_getElem? hb)
    unfold placeIn
    rw [List.findIdx_cons, hx]
    simp only [cond_false]
    have := placeIn_of (List.nodup_cons.1 hn).2 hb
    unfold placeIn at this
    rw [this]

theorem boxesAt_get : ∀ {bs : (Boxes m)} {ids : List Nat} {cs : List (List (SV m))}, boxesAt bs ids = some cs → cs.length = ids.length ∧ ∀ (i b : Nat), ids[i]? = some b → ∃ c, cs[i]? = some c ∧ boxAt bs b = some c
  | bs, [], cs, h => by simp [boxesAt] at h; subst h; simp
  | bs, b :: ids, cs, h => by
    simp only [boxesAt] at h
    rw [Option.bind_eq_some_iff] at h
    obtain ⟨c, hc, h⟩ := h
    rw [Option.map_eq_some_iff] at h
    obtain ⟨cs', hcs, rfl⟩ := h
    obtain ⟨h1, h2⟩ := boxesAt_get hcs
    refine ⟨by simp [h1], fun i b' hi => ?_⟩
    cases i with
    | zero => simp at hi; subst hi; exact ⟨c, rfl, hc⟩
    | succ i => simpa using h2 i b' (by simpa using hi)

theorem putBoxes_ne : ∀ (ids : List Nat) (cs : List (List (SV m))) (bs : (Boxes m)) (b : Nat), b ∉ ids → boxAt (putBoxes bs ids cs) b = boxAt bs b
  | [], cs, bs, b, _ => by cases cs <;> rfl
  | c :: ids, [], bs, b, _ => rfl
  | c :: ids, x :: cs, bs, b, h => by
    simp only [List.mem_cons, not_or] at h
    rw [putBoxes, putBoxes_ne ids cs _ b h.2, boxAt_set_ne h.1]
theorem putBoxes_length : ∀ (ids : List Nat) (cs : List (List (SV m))) (bs : (Boxes m)), (putBoxes bs ids cs).length = bs.length
  | [], cs, bs => by cases cs <;> rfl
  | c :: ids, [], bs => rfl
  | c :: ids, x :: cs, bs => by rw [putBoxes, putBoxes_length]; simp
theorem putBoxes_eq : ∀ (ids : List Nat) (cs : List (List (SV m))) (bs : (Boxes m)) (i b : Nat) (c : List (SV m)), ids.Nodup → ids[i]? = some b → cs[i]? = some c → b < bs.length → boxAt (putBoxes bs ids cs) b = some c
  | [], _, _, _, _, _, _, h, _, _ => by simp at h
  | _ :: _, [], _, _, _, _, _, _, h, _ => by simp at h
  | x :: ids, y :: cs, bs, 0, b, c, hn, hi, hc, hb => by
    simp at hi hc
    subst hi hc
    rw [putBoxes, putBoxes_ne ids cs _ _ (List.nodup_cons.1 hn).1, boxAt_set_self hb]
  | x :: ids, y :: cs, bs, i + 1, b, c, hn, hi, hc, hb => by
    rw [putBoxes]
    exact putBoxes_eq ids cs _ i b c (List.nodup_cons.1 hn).2 (by simpa using hi) (by simpa using hc) (by simpa using hb)

theorem renF {w : World} {F : Fr} {bm bm' : Nat → Nat} {al al' : Nat → Bool} {f : Nat → Nat} {b o : Nat} {v : Value} (h : RepF (m := m) w F N bm al (.ptr b o) v) (hb : bm' (f b) = bm b ∧ al' (f b) = true) : RepF (m := m) w F N bm' al' (.ptr (f b) o) v := by
  simp only [RepF] at h ⊢
  exact ⟨by rw [hb.1]; exact h.1, hb.2⟩
/-- What is handed over reads the same under the callee's names. -/
theorem RepS.handed {w : World} {F : Fr} {Ow Ow' : Own} {bm bm' : Nat → Nat} {al al' : Nat → Bool} {loc loc' : Loc} {x : (SV m)} {v : Value} {f : Nat → Nat} (h : RepS P w F N Ow bm al loc x v) (hx : x.handed = true)
    (hb : ∀ b ∈ x.boxIds, bm' (f b) = bm b ∧ al' (f b) = true) (ho : isOwn x = true → ∀ g, Ow g = some loc → Ow' g = some loc') : RepS P w F N Ow' bm' al' loc' (x.ren f) v := by
  cases x with
  | ptr b o =>
    simp only [RepS] at h
    exact (show RepF w F N bm' al' (.ptr (f b) o) v from renF h (hb b (by simp [SV.boxIds])))
  | bsl b z lo n =>
    simp only [RepS] at h
    obtain ⟨cap, e, hc, _⟩ := (show ∃ cap, v = .slice (some ⟨bm b, lo * z, none⟩) n cap ∧ n ≤ cap ∧ al b = true from h)
    obtain ⟨h1, h2⟩ := hb b (by simp [SV.boxIds])
    exact (show ∃ cap, v = .slice (some ⟨bm' (f b), lo * z, none⟩) n cap ∧ n ≤ cap ∧ al' (f b) = true from ⟨cap, by rw [h1]; exact e, hc, h2⟩)
  | fn g caps =>
    obtain ⟨vs, e, hs, hc⟩ := h
    refine ⟨vs, e, by simpa using hs, fun j c u hj hu => ?_⟩
    simp only [List.getElem?_map, Option.map_eq_some_iff] at hj
    obtain ⟨c', hc', rfl⟩ := hj
    have h0 := hc j c' u hc' hu
    have hmem : c' ∈ caps := List.mem_of_getElem? hc'
    have hok := List.all_eq_true.1 hx c' hmem
    cases c' with
    | ptr b o => exact renF h0 (hb b (List.mem_flatMap.2 ⟨_, hmem, by simp⟩))
    | leaf l => exact h0
    | _ => simp at hok
  | own eo es => exact RepO.keeps (Keeps.refl _ _) h fun g hg => ⟨rfl, rfl, ho rfl g hg⟩
  | leaf l => exact h
  | agg cs => exact h
  | nilptr => exact h
  | nilface => exact h
  | any => simp [SV.handed, SV.flat] at hx
  | skip => simp [SV.handed, SV.flat] at hx
  | eptr c e o => simp [SV.handed, SV.flat] at hx
  | tup vs => simp [SV.handed, SV.flat] at hx
/-- What holds no pointer reads the same under whatever names. -/
theorem RepS.flat {w : World} {F : Fr} {Ow Ow' : Own} {bm bm' : Nat → Nat} {al al' : Nat → Bool} {loc loc' : Loc} {x : (SV m)} {v : Value} (h : RepS P w F N Ow bm al loc x v) (hx : x.flatT = true)
    (ho : isOwn x = true → ∀ g, Ow g = some loc → Ow' g = some loc') : RepS P w F N Ow' bm' al' loc' x v := by
  cases x with
  | ptr b o => simp [SV.flatT, SV.flat] at hx
  | fn g caps => simp [SV.flatT, SV.flat] at hx
  | own eo es => exact RepO.keeps (Keeps.refl _ _) h fun g hg => ⟨rfl, rfl, ho rfl g hg⟩
  | leaf l => exact h
  | agg cs => exact h
  | nilptr => exact h
  | nilface => exact h
  | any => exact h
  | skip => exact h
  | eptr c e o => simp [SV.flatT, SV.flat] at hx
  | bsl b z lo n => simp [SV.flatT, SV.flat] at hx
  | tup vs =>
    obtain ⟨us, e, hs, hc⟩ := h
    refine ⟨us, e, hs, fun j c u hj hu => ?_⟩
    have h0 := hc j c u hj hu
    have hok := List.all_eq_true.1 hx c (List.mem_of_getElem? hj)
    cases c <;> first | exact h0 | simp [SV.flat] at hok
theorem flat_flatT {x : (SV m)} (h : x.flat = true) : x.flatT = true := by cases x <;> first | rfl | exact h | simp [SV.flat] at h

/-- Which argument is slot t. -/
def isTmp (t : Nat) : Operand → Bool | .tmp u => u == t | _ => false
theorem argAt_of {xs : List Operand} {j t : Nat} (hn : (operandTmps xs).Nodup) (h : xs[j]? = some (.tmp t)) : xs.findIdx? (isTmp t) = some j := by
  induction xs generalizing j with
  | nil => simp at h
  | cons x xs ih =>
    cases j with
    | zero => simp at h; subst h; simp [List.findIdx?_cons, isTmp]
    | succ j =>
      have h' : xs[j]? = some (.tmp t) := by simpa using h
      have hmem : t ∈ operandTmps xs := by
        unfold operandTmps
        exact List.mem_filterMap.2 ⟨_, List.mem_of_getElem? h', rfl⟩
      have hx : isTmp t x = false := by
        cases x with
        | tmp u =>
          simp only [isTmp, beq_eq_false_iff_ne, ne_eq]
          rintro rfl
          unfold operandTmps at hn hmem
          rw [List.filterMap_cons_some (by rfl), List.nodup_cons] at hn
          exact hn.1 hmem
        | _ => rfl
      have hn' : (operandTmps xs).Nodup := by
        unfold operandTmps at hn ⊢
        cases x with
        | tmp u => rw [List.filterMap_cons_some (by rfl), List.nodup_cons] at hn; exact hn.2
        | _ => rwa [List.filterMap_cons_none (by rfl)] at hn
      rw [List.findIdx?_cons, hx, ih hn' h']
      rfl
theorem argAt_none {xs : List Operand} {t : Nat} (h : t ∉ operandTmps xs) : xs.findIdx? (isTmp t) = none := by
  rw [List.findIdx?_eq_none_iff]
  intro x hx
  cases x with
  | tmp u =>
    simp only [isTmp, beq_eq_false_iff_ne, ne_eq]
    rintro rfl
    exact h (List.mem_filterMap.2 ⟨_, hx, rfl⟩)
  | _ => rfl

/-- Places of the caller as the callee names them. -/
def toCallee (xs : List Operand) (ids : List Nat) : Loc → Option Loc
  | .tmp t => (xs.findIdx? (isTmp t)).map .tmp
  | .blk b => if b ∈ ids then some (.blk (placeIn ids b)) else none
  | .box b j => if b ∈ ids then some (.box (placeIn ids b) j) else none
/-- And back. -/
def toCaller (dst : Option Tmp) (ids : List Nat) : Loc → Option Loc
  | .tmp 0 => dst.map .tmp
  | .tmp _ => none
  | .blk i => (ids[i]?).map .blk
  | .box i j => (ids[i]?).map fun b => .box b j

theorem setAll_takes (s : (St m)) : ∀ (xs : List Operand) (l : List (SV m)), l.length = s.tmps.length → (setAll l (xs.flatMap (takeE s.eval))).length = s.tmps.length ∧
    ∀ t, (t ∈ operandTmps xs → t < s.tmps.length → (setAll l (xs.flatMap (takeE s.eval)))[t]? = some (s.tmps.getD t .any).drop) ∧ (t ∉ operandTmps xs → (setAll l (xs.flatMap (takeE s.eval)))[t]? = l[t]?)
  | [], l, hl => ⟨by simpa [setAll] using hl, fun t => ⟨by simp [operandTmps], by simp [setAll]⟩⟩
  | x :: xs, l, hl => by
    rw [List.flatMap_cons, setAll_append]
    cases x with
    | tmp u =>
      have hl' : (setAll l (takeE s.eval (.tmp u))).length = s.tmps.length := by simp [setAll, takeE, hl]
      obtain ⟨h1, h2⟩ := setAll_takes s xs _ hl'
      refine ⟨h1, fun t => ⟨fun ht htl => ?_, fun ht => ?_⟩⟩
      · by_cases htx : t ∈ operandTmps xs
        · exact (h2 t).1 htx htl
        · rw [(h2 t).2 htx]
          have : t = u := by
            unfold operandTmps at ht htx
            rw [List.filterMap_cons_some (by rfl), List.mem_cons] at ht
            rcases ht with h | h
            · exact h
            · exact absurd h htx
          subst this
          simp only [setAll, takeE, List.foldl_cons, List.foldl_nil, St.eval]
          have hlt : t < l.length := by rw [hl]; exact htl
          rw [List.getElem?_set_self hlt]
      · unfold operandTmps at ht
        rw [List.filterMap_cons_some (by rfl), List.mem_cons, not_or] at ht
        rw [(h2 t).2 ht.2]
        simp only [setAll, takeE, List.foldl_cons, List.foldl_nil]
        rw [List.getElem?_set_ne (fun e => ht.1 e.symm)]
    | _ =>
      obtain ⟨h1, h2⟩ := setAll_takes s xs l hl
      exact ⟨h1, fun t => h2 t⟩

section
variable {s : (St m)} {a : Act} {w : World} {F : Fr} {Ow : Own} {bm : Nat → Nat} {nt : Nat}

/-- The callee's frame at its beginning. -/
theorem Inv.enter (h : Inv P s a.tmps w F N Ow bm) {xs : List Operand} {caps : List (SV m)} {vs : List Value} {cs : List (List (SV m))} {ta : Bool} (hn : (operandTmps xs).Nodup) (hh : (xs.map (argV ta s.eval) ++ caps).all SV.handed = true)
    (hcaps : vs.length = caps.length ∧ ∀ (j : Nat) (c : (SV m)) (u : Value), caps[j]? = some c → vs[j]? = some u → RepF w F N bm s.al c u) (hcs : boxesAt s.boxes (idsOf (xs.map (argV ta s.eval) ++ caps)) = some cs) (hfl : ∀ c ∈ cs, ∀ x ∈ c, x.flat = true) :
    Inv P { tmps := (xs.map (argV ta s.eval) ++ caps).map (SV.ren (placeIn (idsOf (xs.map (argV ta s.eval) ++ caps)))), boxes := cs.map some } (xs.map a.eval ++ vs).toArray w F N (fun g => (Ow g).bind (toCallee (takenL ta xs) (idsOf (xs.map (argV ta s.eval) ++ caps))))
      (fun i => bm ((idsOf (xs.map (argV ta s.eval) ++ caps)).getD i 0)) := by
  generalize hids : idsOf (xs.map (argV ta s.eval) ++ caps) = ids at *
  have hnd : ids.Nodup := by rw [← hids]; exact idsOf_nodup _
  obtain ⟨hcl, hcg⟩ := boxesAt_get hcs
  have hal : ∀ b ∈ ids, bm (ids.getD (placeIn ids b) 0) = bm b ∧ (boxAt (cs.map some) (placeIn ids b)).isSome = true := by
    intro b hb
    have h1 := placeIn_get hb
    obtain ⟨c, hc, _⟩ := hcg _ _ h1
    refine ⟨by rw [List.getD_eq_getElem?_getD, h1]; rfl, ?_⟩
    unfold boxAt
    rw [List.getD_eq_getElem?_getD, List.getElem?_map, hc]; rfl
  have hmem : ∀ x ∈ xs.map (argV ta s.eval) ++ caps, ∀ b ∈ x.boxIds, b ∈ ids := fun x hx b hb => by rw [← hids]; exact mem_idsOf.2 ⟨x, hx, hb⟩
  refine ⟨by simp [hcaps.1], fun t => ?_, fun i c hc => ?_, h.low, fun g hg => ⟨(h.new g hg).1, by simp [(h.new g hg).2]⟩, fun i c hc => ?_, fun g hz => ⟨by simp [(h.zow g hz).1], (h.zow g hz).2⟩⟩
  · show RepS P w F N _ _ (fun b => (boxAt (cs.map some) b).isSome) (.tmp t) (((xs.map (argV ta s.eval) ++ caps).map (SV.ren (placeIn ids))).getD t .any) _
    rw [List.getD_eq_getElem?_getD, List.getElem?_map, Array.getD_eq_getD_getElem?, List.getElem?_toArray]
    by_cases ht : t < xs.length
    · have e1 : (xs.map (argV ta s.eval) ++ caps)[t]? = some (argV ta s.eval xs[t]) := by rw [List.getElem?_append_left (by simpa using ht)]; simp [ht]
      have e2 : (xs.map a.eval ++ vs)[t]? = some (a.eval xs[t]) := by rw [List.getElem?_append_left (by simpa using ht)]; simp [ht]
      rw [e1, e2]
      simp only [Option.map_some, Option.getD_some]
      have hin : argV ta s.eval xs[t] ∈ xs.map (argV ta s.eval) ++ caps := List.mem_of_getElem? e1
      have hx := h.eval (a := a) rfl xs[t]
      have hok := List.all_eq_true.1 hh _ hin
      cases ta with
      | false =>
        have hxd : RepS P w F N Ow bm s.al (locOf xs[t]) (s.eval xs[t]).drop (a.eval xs[t]) := RepS.drop hx
        exact hxd.handed hok (fun b hb => hal b (hmem _ hin b hb)) (fun ho => by rw [drop_not_own] at ho; simp at ho)
      | true =>
      have hav : ∀ x, argV true s.eval x = s.eval x := fun _ => rfl
      rw [hav] at hok hin ⊢
      cases hxt : xs[t] with
      | tmp u =>
        rw [hxt] at hx hok hin
        refine hx.handed hok (fun b hb => hal b (hmem _ hin b hb)) fun _ g hg => ?_
        simp only [locOf] at hg
        rw [hg]
        simp only [Option.bind_some, toCallee, takenL, argAt_of hn (show xs[t]? = some (.tmp u) by rw [List.getElem?_eq_getElem ht, hxt]), Option.map_some]
      | const c =>
        rw [hxt] at hx hok hin
        cases hce : s.eval (.const c) with
        | own eo es =>
          have hnil : a.eval (.const c) = .slice none 0 0 ∧ es = [] := by
            simp only [St.eval] at hce
            unfold ofConst at hce
            split at hce <;> simp at hce
            obtain ⟨_, rfl⟩ := hce
            exact ⟨rfl, rfl⟩
          obtain ⟨e3, rfl⟩ := hnil
          rw [e3]
          exact RepS.own_nil
        | _ =>
          rw [hce] at hx hok hin
          exact hx.handed hok (fun b hb => hal b (hmem _ hin b hb)) (fun ho => by simp [isOwn] at ho)
      | global g =>
        rw [hxt] at hok
        simp [St.eval, SV.handed, SV.flat] at hok
      | func f =>
        rw [hxt] at hx hok hin
        exact hx.handed hok (fun b hb => hal b (hmem _ hin b hb)) (fun ho => by simp [St.eval, isOwn] at ho)
    · by_cases ht2 : t - xs.length < caps.length
      · have e1 : (xs.map (argV ta s.eval) ++ caps)[t]? = some caps[t - xs.length] := by rw [List.getElem?_append_right (by simp; omega)]; simp [ht2]
        have e2 : (xs.map a.eval ++ vs)[t]? = some (vs[t - xs.length]'(by rw [hcaps.1]; exact ht2)) := by rw [List.getElem?_append_right (by simp; omega)]; simp [hcaps.1, ht2]
        rw [e1, e2]
        simp only [Option.map_some, Option.getD_some]
        have hin : caps[t - xs.length] ∈ xs.map (argV ta s.eval) ++ caps := List.mem_of_getElem? e1
        have hok := List.all_eq_true.1 hh _ hin
        have h0 := hcaps.2 (t - xs.length) _ _ (List.getElem?_eq_getElem ht2) (List.getElem?_eq_getElem (by rw [hcaps.1]; exact ht2))
        generalize caps[t - xs.length] = c at *
        cases c with
        | own eo es => exact (show False from h0).elim
        | fn g cp => exact (show False from h0).elim
        | ptr b o =>
          refine RepS.handed (Ow := Ow) (loc := .blk 0) (bm := bm) (al := s.al) ?_ hok (fun b hb => hal b (hmem _ hin b hb)) (fun ho => by simp [isOwn] at ho)
          simpa only [RepS] using h0
        | leaf l =>
          refine RepS.handed (Ow := Ow) (loc := .blk 0) (bm := bm) (al := s.al) ?_ hok (fun b hb => hal b (hmem _ hin b hb)) (fun ho => by simp [isOwn] at ho)
          simpa only [RepS] using h0
        | agg l =>
          refine RepS.handed (Ow := Ow) (loc := .blk 0) (bm := bm) (al := s.al) ?_ hok (fun b hb => hal b (hmem _ hin b hb)) (fun ho => by simp [isOwn] at ho)
          simpa only [RepS] using h0
        | nilptr =>
          refine RepS.handed (Ow := Ow) (loc := .blk 0) (bm := bm) (al := s.al) ?_ hok (fun b hb => hal b (hmem _ hin b hb)) (fun ho => by simp [isOwn] at ho)
          simpa only [RepS] using h0
        | nilface =>
          refine RepS.handed (Ow := Ow) (loc := .blk 0) (bm := bm) (al := s.al) ?_ hok (fun b hb => hal b (hmem _ hin b hb)) (fun ho => by simp [isOwn] at ho)
          simpa only [RepS] using h0
        | any => simp [SV.handed, SV.flat] at hok
        | skip => simp [SV.handed, SV.flat] at hok
        | eptr c e o => simp [SV.handed, SV.flat] at hok
        | bsl b z lo n =>
          refine RepS.handed (Ow := Ow) (loc := .blk 0) (bm := bm) (al := s.al) ?_ hok (fun b hb => hal b (hmem _ hin b hb)) (fun ho => by simp [isOwn] at ho)
          simpa only [RepS] using h0
        | tup l => simp [SV.handed, SV.flat] at hok
      · have e1 : (xs.map (argV ta s.eval) ++ caps)[t]? = none := List.getElem?_eq_none (by simp; omega)
        rw [e1]
        exact RepS.any
  · have hci : cs[i]? = some c := by
      have hc' : boxAt (cs.map some) i = some c := hc
      unfold boxAt at hc'
      rw [List.getD_eq_getElem?_getD, List.getElem?_map] at hc'
      cases hx : cs[i]? with
      | none => rw [hx] at hc'; simp at hc'
      | some y => rw [hx] at hc'; simpa using hc'
    have hilt : i < ids.length := by rw [← hcl]; exact (List.getElem?_eq_some_iff.1 hci).1
    obtain ⟨c', hc1, hc2⟩ := hcg i ids[i] (List.getElem?_eq_getElem hilt)
    rw [hci] at hc1
    cases hc1
    obtain ⟨cur, e, g1, g2, g3, g4, g5⟩ := h.box _ _ hc2
    have hg : ids.getD i 0 = ids[i] := by rw [List.getD_eq_getElem?_getD, List.getElem?_eq_getElem hilt]; rfl
    have hpl : placeIn ids ids[i] = i := placeIn_of hnd (List.getElem?_eq_getElem hilt)
    have hin : ids[i] ∈ ids := List.getElem_mem hilt
    refine ⟨cur, e, by rw [hg]; exact g1, g2, by rw [hg]; exact g3, ?_, fun j x u hx hu => ?_⟩
    · show (Ow (bm (ids.getD i 0))).bind _ = _
      rw [hg, g4]
      simp [toCallee, hin, hpl]
    · refine (g5 j x u hx hu).flat (flat_flatT (hfl c (List.mem_of_getElem? hci) x (List.mem_of_getElem? hx))) fun _ g hg' => ?_
      rw [hg']
      simp [toCallee, hin, hpl]
  · have hci : cs[i]? = some c := by
      have hc' : boxAt (cs.map some) i = some c := hc
      unfold boxAt at hc'
      rw [List.getD_eq_getElem?_getD, List.getElem?_map] at hc'
      cases hx : cs[i]? with
      | none => rw [hx] at hc'; simp at hc'
      | some y => rw [hx] at hc'; simpa using hc'
    have hilt : i < ids.length := by rw [← hcl]; exact (List.getElem?_eq_some_iff.1 hci).1
    obtain ⟨c', hc1, hc2⟩ := hcg i ids[i] (List.getElem?_eq_getElem hilt)
    have hg : ids.getD i 0 = ids[i] := by rw [List.getD_eq_getElem?_getD, List.getElem?_eq_getElem hilt]; rfl
    show N.n ≤ bm (ids.getD i 0)
    rw [hg]
    exact h.bmn _ _ hc2
end
end Go.Vs
