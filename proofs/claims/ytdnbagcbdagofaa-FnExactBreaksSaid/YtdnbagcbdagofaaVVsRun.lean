/- A function's run, and calls to whatever depth. -/
import Derived.Test.YtdnbagcbdagofaaVVsCode
namespace Go.Vs
variable {m : Bool}
variable {P : Program} {N : Env}

section
variable {s : (St m)} {tmps : Array Value} {w : World} {F : Fr} {Ow : Own} {bm : Nat → Nat}

def locR (s : (St m)) : ResultVar → Loc
  | .tmp t => .tmp t
  | .cell a _ => match s.tmps.getD a .any with | .ptr b p => .box b p | _ => .blk 0
def oneResult (tmps : Array Value) : ResultVar → Sem Value
  | .tmp t => pure (tmps.getD t undef)
  | .cell a t => do loadVar t (← asAddr (tmps.getD a undef))
/-- When a frame is left its own boxes are sealed. -/
def cellsIn (w : World) (g : Nat) : Nat := match w.heap[g]? with | some (.cells cur _ _) => cur.size | _ => 0
def sealF (nt : Nat) (s : (St m)) (w : World) (F : Fr) (bm : Nat → Nat) : Fr := fun g => if (List.range nt).any (fun b => (boxAt s.boxes b).isSome && bm b == g) = true then cellsIn w g else F g
theorem sealF_eq {nt g : Nat} (hg : ∀ b, b < nt → (boxAt s.boxes b).isSome = true → bm b ≠ g) : sealF nt s w F bm g = F g := by
  unfold sealF
  rw [if_neg]
  rw [List.any_eq_true]
  rintro ⟨b, hb, hx⟩
  simp only [Bool.and_eq_true, beq_iff_eq] at hx
  exact hg b (List.mem_range.1 hb) hx.1 hx.2
theorem sealF_own (h : Inv P s tmps w F N Ow bm) {nt g : Nat} {loc : Loc} (hg : Ow g = some loc) (hl : ∀ b, b < nt → loc ≠ .blk b) : sealF nt s w F bm g = F g := by
  refine sealF_eq fun b hb hal he => ?_
  obtain ⟨cs, hcs⟩ := Option.isSome_iff_exists.1 hal
  obtain ⟨_, _, _, _, _, ho, _⟩ := h.box b cs hcs
  rw [he, hg] at ho
  exact hl b hb (by simpa using ho)
theorem sealF_keeps (h : Inv P s tmps w F N Ow bm) (nt : Nat) : Keeps N w F w (sealF nt s w F bm) := by
  refine .mk' (fun _ _ _ => rfl) fun g => ?_
  by_cases hx : ∃ b, b < nt ∧ (boxAt s.boxes b).isSome = true ∧ bm b = g
  · obtain ⟨b, _, hal, rfl⟩ := hx
    obtain ⟨cs, hcs⟩ := Option.isSome_iff_exists.1 hal
    obtain ⟨_, _, _, _, h0, _, _⟩ := h.box b cs hcs
    rw [h0]; exact Nat.zero_le _
  · rw [sealF_eq fun b hb hal he => hx ⟨b, hb, hal, he⟩]; exact Nat.le_refl _
theorem sealF_box (h : Inv P s tmps w F N Ow bm) {nt b : Nat} {cs : List (SV m)} (hb : b < nt) (hcs : boxAt s.boxes b = some cs) : sealF nt s w F bm (bm b) = cs.length := by
  obtain ⟨cur, e, h1, h2, _⟩ := h.box b cs hcs
  unfold sealF
  rw [if_pos]
  · simp only [cellsIn, h1, h2]
  · rw [List.any_eq_true]
    exact ⟨b, List.mem_range.2 hb, by simp [hcs]⟩
theorem chunks_spec {α : Type} {z : Nat} : ∀ (n : Nat) (l : List α), n * z ≤ l.length → (chunks z n l).length = n ∧ (∀ e ∈ chunks z n l, e.length = z) ∧ (chunks z n l).flatten = l.take (n * z)
  | 0, l, _ => by simp [chunks]
  | n + 1, l, h => by
    have hm : (n + 1) * z = n * z + z := Nat.succ_mul _ _
    obtain ⟨h1, h2, h3⟩ := chunks_spec (z := z) n (l.drop z) (by rw [List.length_drop]; omega)
    refine ⟨by simp [chunks, h1], fun e he => ?_, ?_⟩
    · rcases List.mem_cons.1 he with rfl | he
      · rw [List.length_take]; omega
      · exact h2 e he
    · rw [chunks, List.flatten_cons, h3, hm, Nat.add_comm, List.take_add]
theorem seal_rep (h : Inv P s tmps w F N Ow bm) {nt : Nat} {loc : Loc} {x v : (SV m)} {u : Value} (hl : isOwn x = true → ∀ b, b < nt → loc ≠ .blk b) (hx : RepS P w F N Ow bm s.al loc x u) (hs : sealV nt s x = some v) : RepS P w (sealF nt s w F bm) N Ow bm s.al loc v u := by
  have hk := sealF_keeps h nt
  have old : v = x → RepS P w (sealF nt s w F bm) N Ow bm s.al loc v u := fun e => by
    subst e
    exact hx.to hk (fun b hb => ⟨rfl, hb⟩) fun ho g hg => ⟨rfl, sealF_own h hg (hl ho), hg⟩
  cases x with
  | bsl b z lo n =>
    simp only [sealV] at hs
    split at hs
    · rename_i hb
      obtain ⟨hb, rfl⟩ := hb
      rw [Option.bind_eq_some_iff] at hs
      obtain ⟨cs, hcs, hs⟩ := hs
      have hcs' : boxAt s.boxes b = some cs := hcs
      split at hs
      · rename_i hc
        obtain ⟨hle, hz⟩ := hc
        rw [Option.map_eq_some_iff] at hs
        obtain ⟨l, hl', rfl⟩ := hs
        obtain ⟨cap, e, hcap, _⟩ := hx.bslOf b z 0 n rfl
        rw [Nat.zero_mul] at e
        subst e
        obtain ⟨cur, e, h1, h2, h3, h4, h5⟩ := h.box b cs hcs'
        have hcl := Array.length_toList (xs := cur)
        have hr : RepR w F N l (cur.toList.take (n * z)) := by
          refine asLeaves_rep (P := P) (Ow := Ow) (bm := bm) (al := s.al) (cs.take (n * z)) _ l (fun j => .box b j) hl' (by simp; omega) fun j c u hc hu => ?_
          rw [List.getElem?_take] at hc hu
          split at hc
          · rename_i hj
            simp only [hj, if_true] at hu
            exact h5 j c u hc (by simpa using hu)
          · simp at hc
        have hll : l.length = n * z := by have := hr.1; rw [List.length_take] at this; omega
        obtain ⟨c1, c2, c3⟩ := chunks_spec (z := z) n l (by omega)
        rw [List.take_of_length_le (by omega)] at c3
        refine RepS.leaf ?_
        have := repL_sl_mk (w := w) (F := sealF nt s w F bm) (N := N) (c := Fl.new m) (es := chunks z n l) (A := some ⟨bm b, 0, none⟩) (cap := cap) (z := z) (vals := cur.toList.take (n * z)) (by rw [c1]; exact hcap) c2 (fun _ => ⟨bm b, 0, rfl, fun _ => h.bmn b cs hcs', ?_, ⟨fun hh => by rw [Fl.soft_new] at hh; simp at hh, fun hh => absurd (N.lt _ hh) (Nat.not_lt.2 (h.bmn b cs hcs'))⟩, fun j v hj => ?_⟩) (by rw [c3]; exact hr.keeps hk)
        · rw [c1] at this; exact this
        · rw [sealF_box h hb hcs', List.length_take]; omega
        · rw [List.getElem?_take] at hj
          split at hj
          · rw [Nat.zero_add, cell_in h1]; simpa using hj
          · simp at hj
      · simp at hs
    · simp at hs
  | _ => exact old (by simpa [sealV] using hs.symm)

theorem resOne_run {tmps : Array Value} {nt : Nat} {r : ResultVar} {v : (SV m)} (h : Inv P s tmps w F N Ow bm) (hr : resOne P nt s r = some v) :
    ∃ u, (oneResult tmps r).run P w = .ok u w ∧ RepS P w (sealF nt s w F bm) N Ow bm s.al (locR s r) v u ∧ (isOwn v = true → ∀ b p, locR s r = .box b p → b < nt) := by
  cases r with
  | tmp t =>
    simp only [resOne] at hr
    exact ⟨_, rfl, seal_rep (loc := .tmp t) h (fun _ b _ => by simp) (h.slot t) hr, fun _ b p hb => by simp [locR] at hb⟩
  | cell c t =>
    simp only [resOne] at hr
    split at hr
    · rename_i b p hp
      rw [Option.bind_eq_some_iff] at hr
      obtain ⟨cs, hb, hr⟩ := hr
      have hb' : boxAt s.boxes b = some cs := hb
      have hx := h.slot c
      rw [hp] at hx
      have hz : tmps.getD c undef = .pointer (some ⟨bm b, p, none⟩) := by
        have : tmps.getD c undef = .pointer (some ⟨bm b, p, none⟩) ∧ s.al b = true := by simpa only [RepS, RepF] using hx
        exact this.1
      have hloc : locR s (.cell c t) = .box b p := by simp only [locR, hp]
      have hld : ∀ u, (Instr.loadAt t (.pointer (some ⟨bm b, p, none⟩))).run P w = .ok u w → (oneResult tmps (.cell c t)).run P w = .ok u w := by
        intro u hu
        have hu' : (loadVar t ⟨bm b, p, none⟩).run P w = .ok u w := by simpa [Instr.loadAt, Instr.sureAddr] using hu
        simp [oneResult, hz, asAddr, hu']
      have hI : Inv P s (⟨tmps, []⟩ : Act).tmps w F N Ow bm := h
      split at hr
      · rename_i ha
        rw [Option.bind_eq_some_iff] at hr
        obtain ⟨n, hn, hr⟩ := hr
        split at hr
        · rename_i hle
          rw [Option.map_eq_some_iff] at hr
          obtain ⟨l, hl, rfl⟩ := hr
          obtain ⟨cur, et, hg, hcs, hrr⟩ := box_cells (a := ⟨tmps, []⟩) hI hb' hle hl
          exact ⟨_, hld _ (load_cells_run (n := n) (p := p) hg ha hn (by omega)), RepS.agg (by simpa using hrr.keeps (sealF_keeps h nt)), fun ho => by simp [isOwn] at ho⟩
        · simp at hr
      · rename_i ha
        split at hr
        · rename_i hbn
          have ha' : isAggT P t = false := by simpa using ha
          obtain ⟨d, hd⟩ := isAgg_desc ha'
          obtain ⟨cur, et, h1, h2, h3, h4, h5⟩ := h.box b cs hb'
          have hp' : p < cs.length := (List.getElem?_eq_some_iff.1 hr).1
          have hu : cur[p]? = some cur[p] := by simp
          refine ⟨cur[p], hld _ (load_cell_run h1 hd ha' hu), by rw [hloc]; exact (h5 p v _ hr hu).to (sealF_keeps h nt) (fun b hb => ⟨rfl, hb⟩) fun _ g hg => ⟨rfl, sealF_own h hg (fun b _ => by simp), hg⟩, fun _ b' p' hb'' => ?_⟩
          rw [hloc] at hb''
          cases hb''
          exact hbn
        · simp at hr
    · simp at hr

theorem resAll_run {tmps : Array Value} {nt : Nat} (h : Inv P s tmps w F N Ow bm) : ∀ (rs : List ResultVar) (vs : List (SV m)), resAll P nt s rs = some vs → ∃ us, (rs.mapM (oneResult tmps)).run P w = .ok us w ∧ us.length = vs.length ∧
    ∀ (j : Nat) (c : (SV m)) (u : Value), vs[j]? = some c → us[j]? = some u → ∃ loc, RepS P w (sealF nt s w F bm) N Ow bm s.al loc c u ∧ isOwn c = false
  | [], vs, hr => by simp [resAll] at hr; subst hr; exact ⟨[], by simp, rfl, by simp⟩
  | r :: rs, vs, hr => by
    simp only [resAll] at hr
    rw [Option.bind_eq_some_iff] at hr
    obtain ⟨v, hv, hr⟩ := hr
    rw [Option.map_eq_some_iff] at hr
    obtain ⟨vs', hvs, rfl⟩ := hr
    obtain ⟨u, hu, hrep, _⟩ := resOne_run h hv
    obtain ⟨us, h1, h2, h3⟩ := resAll_run h rs vs' hvs
    refine ⟨u :: us, by simp [List.mapM_cons, hu, h1], by simp [h2], fun j c x hc hx => ?_⟩
    cases j with
    | zero => simp at hc hx; subst hc hx; exact ⟨_, RepS.drop (Ow' := Ow) (loc' := .blk 0) hrep, drop_not_own _⟩
    | succ j => exact h3 j c x (by simpa using hc) (by simpa using hx)

theorem results_eq (fn : Func) (tmps : Array Value) : results fn tmps = (do let vs ← fn.results.mapM (oneResult tmps); pure (if h : vs.size = 1 then vs[0] else .tuple vs)) := by
  unfold results
  congr 1

theorem resultV_run {tmps : Array Value} {fn : Func} {v : (SV m)} (h : Inv P s tmps w F N Ow bm) (hr : resultV P fn s = some v) (hfl : v.flatT = true) :
    ∃ u loc, (results fn tmps).run P w = .ok u w ∧ RepS P w (sealF fn.ntmps s w F bm) N Ow bm s.al loc v u ∧ (isOwn v = true → (∃ t, loc = .tmp t) ∨ ∃ b p, loc = .box b p ∧ b < fn.ntmps) := by
  unfold resultV at hr
  rw [results_eq]
  split at hr
  · rename_i r hrs
    have hrs' : fn.results = #[r] := by rw [← hrs]
    obtain ⟨u, hu, hrep, hown⟩ := resOne_run h hr
    refine ⟨u, locR s r, by rw [hrs']; simp [hu], hrep, fun ho => ?_⟩
    cases r with
    | tmp t => exact .inl ⟨t, rfl⟩
    | cell c t =>
      cases hp : s.tmps.getD c .any with
      | ptr b p => exact .inr ⟨b, p, by simp only [locR, hp], hown ho b p (by simp only [locR, hp])⟩
      | _ => simp only [resOne, hp] at hr; simp at hr
  · rename_i hne
    rw [Option.map_eq_some_iff] at hr
    obtain ⟨vs, hvs, rfl⟩ := hr
    obtain ⟨us, h1, h2, h3⟩ := resAll_run h _ vs hvs
    have hlen : us.length = fn.results.toList.length := by
      have : ∀ (rs : List ResultVar) (vs : List (SV m)), resAll P fn.ntmps s rs = some vs → vs.length = rs.length := by
        intro rs
        induction rs with
        | nil => intro vs h; simp [resAll] at h; subst h; rfl
        | cons r rs ih =>
          intro vs h
          simp only [resAll] at h
          rw [Option.bind_eq_some_iff] at h
          obtain ⟨v, _, h⟩ := h
          rw [Option.map_eq_some_iff] at h
          obtain ⟨vs', hvs, rfl⟩ := h
          simp [ih vs' hvs]
      rw [h2, this _ _ hvs]
    have hn1 : us.length ≠ 1 := by
      intro he
      rw [hlen] at he
      obtain ⟨r, hr⟩ := List.length_eq_one_iff.1 he
      exact hne r hr
    refine ⟨.tuple us.toArray, .blk 0, ?_, ⟨us.toArray, rfl, by simpa using h2, fun j c u hc hu => ?_⟩, fun ho => by simp [isOwn] at ho⟩
    · rw [Array.mapM_eq_mapM_toList]
      simp [h1, hn1]
    · obtain ⟨loc, hrep, hno⟩ := h3 j c u hc (by simpa using hu)
      cases c with
      | own eo es => simp [isOwn] at hno
      | fn g caps => have := List.all_eq_true.1 hfl _ (List.mem_of_getElem? hc); simp [SV.flat] at this
      | tup vs => have := List.all_eq_true.1 hfl _ (List.mem_of_getElem? hc); simp [SV.flat] at this
      | _ => simpa only [RepS] using hrep

/-- A frame's places as its caller's argument names them. -/
def toFrame (n : Nat) : Loc → Option Loc
  | .tmp t => some (.tmp t)
  | .blk i => some (.blk (n + i))
  | .box i j => some (.box (n + i) j)
def outFrame (lr : Loc) (n : Nat) (l : Loc) : Option Loc :=
  if l = lr then some (.tmp 0) else match l with
    | .tmp _ => none
    | .blk b => if n ≤ b then some (.blk (b - n)) else none
    | .box b j => if n ≤ b then some (.box (b - n) j) else none

theorem boxAt_pad {n : Nat} {bs : (Boxes m)} {b : Nat} : boxAt (List.replicate n none ++ bs) b = if b < n then none else boxAt bs (b - n) := by
  unfold boxAt
  rw [List.getD_eq_getElem?_getD]
  split
  · rename_i h
    rw [List.getElem?_append_left (by simpa using h), List.getElem?_replicate]
    simp [h]
  · rename_i h
    rw [List.getElem?_append_right (by simpa using Nat.le_of_not_lt h), List.length_replicate, List.getD_eq_getElem?_getD]

theorem RepS.renamed {w : World} {F : Fr} {Ow Ow' : Own} {bm bm' : Nat → Nat} {al al' : Nat → Bool} {loc loc' : Loc} {x : (SV m)} {v : Value} {f : Nat → Nat} (h : RepS P w F N Ow bm al loc x v) (hx : x.handed = true)
    (hb : ∀ b, al b = true → bm' (f b) = bm b ∧ al' (f b) = true) (ho : isOwn x = true → ∀ g, Ow g = some loc → Ow' g = some loc') : RepS P w F N Ow' bm' al' loc' (x.ren f) v := by
  refine h.handed hx (fun b hb' => hb b ?_) ho
  cases x with
  | ptr c o =>
    have : b = c := by simpa [SV.boxIds] using hb'
    subst this
    have h' : RepF (m := m) w F N bm al (.ptr b o) v := by simpa only [RepS] using h
    exact h'.2
  | bsl c z lo n =>
    have : b = c := by simpa [SV.boxIds] using hb'
    subst this
    obtain ⟨_, _, _, h3⟩ := h.bslOf b z lo n rfl
    exact h3
  | fn g caps =>
    obtain ⟨vs, e, hs, hc⟩ := h
    obtain ⟨c, hc1, hc2⟩ := List.mem_flatMap.1 hb'
    obtain ⟨j, hj⟩ := List.getElem?_of_mem hc1
    have hlt : j < vs.size := by rw [hs]; exact (List.getElem?_eq_some_iff.1 hj).1
    have h0 := hc j c _ hj (Array.getElem?_eq_getElem hlt)
    cases c with
    | ptr d o =>
      have : b = d := by simpa using hc2
      subst this
      exact h0.2
    | _ => simp at hc2
  | _ => simp [SV.boxIds] at hb'

theorem Inv.frame {args : List (SV m)} {boxes : List (List (SV m))} {vals : Array Value} (h : Inv P { tmps := args, boxes := boxes.map some } vals w F N Ow bm) (fn : Func) (hh : args.all SV.handed = true) (hf : ∀ c ∈ boxes, ∀ x ∈ c, x.flat = true) :
    Inv P (enterV fn args boxes) (vals ++ Array.replicate (fn.ntmps - vals.size) undef) w F N (fun g => (Ow g).bind (toFrame fn.ntmps)) (fun b => bm (b - fn.ntmps)) := by
  have hlen : args.length = vals.size := h.len
  have hal : ∀ b, (boxAt (boxes.map some) b).isSome = true → bm (fn.ntmps + b - fn.ntmps) = bm b ∧ (boxAt (List.replicate fn.ntmps none ++ boxes.map some) (fn.ntmps + b)).isSome = true := by
    intro b hb
    rw [boxAt_pad, if_neg (by omega), Nat.add_sub_cancel_left]
    exact ⟨rfl, hb⟩
  refine ⟨by simp [enterV, padTo, hlen], fun t => ?_, fun b cs hb => ?_, h.low, fun g hg => ⟨(h.new g hg).1, by simp [(h.new g hg).2]⟩, fun b cs hb => ?_, fun g hz => ⟨by simp [(h.zow g hz).1], (h.zow g hz).2⟩⟩
  rotate_right
  · have hb' : boxAt (List.replicate fn.ntmps none ++ boxes.map some) b = some cs := hb
    rw [boxAt_pad] at hb'
    split at hb'
    · simp at hb'
    · exact h.bmn _ cs hb'
  · show RepS P w F N _ _ (fun b => (boxAt (List.replicate fn.ntmps none ++ boxes.map some) b).isSome) (.tmp t) ((padTo fn.ntmps (args.map (SV.ren (fn.ntmps + ·)))).getD t .any) _
    rw [List.getD_eq_getElem?_getD, Array.getD_eq_getD_getElem?]
    unfold padTo
    by_cases ht : t < args.length
    · rw [List.getElem?_append_left (by simpa using ht), List.getElem?_map, List.getElem?_eq_getElem ht, Array.getElem?_append_left (by omega), Array.getElem?_eq_getElem (by omega)]
      simp only [Option.map_some, Option.getD_some]
      have hs := h.slot t
      have e1 : args.getD t .any = args[t] := by rw [List.getD_eq_getElem?_getD, List.getElem?_eq_getElem ht]; rfl
      have e2 : vals.getD t undef = vals[t]'(by omega) := by simp [Array.getD, show t < vals.size by omega]
      simp only at hs
      rw [e1, e2] at hs
      exact hs.renamed (List.all_eq_true.1 hh _ (List.getElem_mem ht)) hal fun _ g hg => by rw [hg]; rfl
    · rw [List.getElem?_append_right (by simpa using Nat.le_of_not_lt ht), Array.getElem?_append_right (by omega), List.getElem?_replicate]
      split
      · rename_i hl
        simp only [List.length_map] at hl
        rw [Array.getElem?_replicate, if_pos (by omega)]
        simp only [Option.getD_some, RepS, RepF]
      · exact RepS.any
  · have hb' : boxAt (List.replicate fn.ntmps none ++ boxes.map some) b = some cs := hb
    rw [boxAt_pad] at hb'
    split at hb'
    · simp at hb'
    · rename_i hlt
      obtain ⟨cur, e, g1, g2, g3, g4, g5⟩ := h.box (b - fn.ntmps) cs hb'
      have hmem : cs ∈ boxes := by
        have hl := boxAt_lt hb'
        unfold boxAt at hb'
        rw [List.getD_eq_getElem?_getD, List.getElem?_map] at hb'
        cases hx : boxes[b - fn.ntmps]? with
        | none => rw [hx] at hb'; simp at hb'
        | some y => rw [hx] at hb'; simp at hb'; subst hb'; exact List.mem_of_getElem? hx
      have hbb : fn.ntmps + (b - fn.ntmps) = b := by omega
      refine ⟨cur, e, g1, g2, g3, by rw [g4]; simp [toFrame, hbb], fun j c u hc hu => (g5 j c u hc hu).flat (flat_flatT (hf cs hmem c (List.mem_of_getElem? hc))) fun _ g hg => ?_⟩
      rw [hg]
      simp [toFrame, hbb]

theorem Inv.leave {s : (St m)} {tmps : Array Value} {fn : Func} {n : Nat} {r : (SV m) × List (List (SV m))} (h : Inv P s tmps w F N Ow bm) (hr : leaveV P fn n s = some r) :
    r.2.length = n ∧ r.1.flatT = true ∧ (∀ cs ∈ r.2, ∀ c ∈ cs, c.flat = true) ∧ ∃ u Ow' F', (results fn tmps).run P w = .ok u w ∧ Inv P { tmps := [r.1], boxes := r.2.map some } #[u] w F' N Ow' (fun i => bm (fn.ntmps + i)) ∧ Keeps N w F w F' ∧ ∀ g, Ow g = none → F' g = F g ∧ Ow' g = none := by
  have hk := sealF_keeps h fn.ntmps
  unfold leaveV at hr
  rw [Option.bind_eq_some_iff] at hr
  obtain ⟨v, hv, hr⟩ := hr
  obtain ⟨hfl, hr⟩ := guarded_eq hr
  rw [Option.bind_eq_some_iff] at hr
  obtain ⟨cs, hcs, hr⟩ := hr
  obtain ⟨hfc, hr⟩ := guarded_eq hr
  simp only [Option.some.injEq] at hr
  subst hr
  obtain ⟨hl, hg⟩ := boxesAt_get hcs
  simp only [List.length_map, List.length_range] at hl
  have hfc' : ∀ c ∈ cs, ∀ x ∈ c, x.flat = true := fun c hc x hx => List.all_eq_true.1 (List.all_eq_true.1 hfc c hc) x hx
  obtain ⟨u, lr, hrun, hrep, hown⟩ := resultV_run h hv hfl
  have hlr : ∃ lr', RepS P w (sealF fn.ntmps s w F bm) N Ow bm s.al lr' v u ∧ (∀ b, n ≠ 0 → fn.ntmps ≤ b → lr' ≠ .blk b ∧ ∀ j, lr' ≠ .box b j) := by
    cases ho : isOwn v with
    | true =>
      rcases hown ho with ⟨t, rfl⟩ | ⟨b, p, rfl, hb⟩
      · exact ⟨_, hrep, fun b _ _ => ⟨by simp, by simp⟩⟩
      · refine ⟨_, hrep, fun c _ hc => ⟨by simp, fun j he => ?_⟩⟩
        cases he
        exact absurd hb (Nat.not_lt.2 hc)
    | false => exact ⟨.tmp 0, hrep.flat hfl (fun h => by rw [ho] at h; simp at h), fun b _ _ => ⟨by simp, by simp⟩⟩
  obtain ⟨lr', hrep', hne⟩ := hlr
  have hnone : ∀ g, Ow g = none → sealF fn.ntmps s w F bm g = F g := fun g hg' => sealF_eq fun b hb hal he => by
    obtain ⟨cs0, hcs0⟩ := Option.isSome_iff_exists.1 hal
    obtain ⟨_, _, _, _, _, ho, _⟩ := h.box b cs0 hcs0
    rw [he, hg'] at ho
    simp at ho
  have hbox : ∀ i c, boxAt (cs.map some) i = some c → i < n ∧ cs[i]? = some c ∧ boxAt s.boxes (fn.ntmps + i) = some c := by
    intro i c hc'
    have hci : cs[i]? = some c := by
      unfold boxAt at hc'
      rw [List.getD_eq_getElem?_getD, List.getElem?_map] at hc'
      cases hx : cs[i]? with
      | none => rw [hx] at hc'; simp at hc'
      | some y => rw [hx] at hc'; simpa using hc'
    have hin : i < n := by rw [← hl]; exact (List.getElem?_eq_some_iff.1 hci).1
    obtain ⟨c2, h1, h2⟩ := hg i (fn.ntmps + i) (by rw [List.getElem?_map, List.getElem?_range hin]; rfl)
    rw [hci] at h1
    cases h1
    exact ⟨hin, hci, h2⟩
  refine ⟨hl, hfl, hfc', u, fun g => (Ow g).bind (outFrame lr' fn.ntmps), sealF fn.ntmps s w F bm, hrun, ⟨rfl, fun t => ?_, fun i c hc => ?_, h.low, fun g hg' => ⟨(hnone g (h.new g hg').2).trans (h.new g hg').1, by simp [(h.new g hg').2]⟩, fun i c hc => h.bmn _ c (hbox i c hc).2.2, fun g hz => ⟨by simp [(h.zow g hz).1], (h.zow g hz).2⟩⟩, hk, fun g hg' => ⟨hnone g hg', by simp [hg']⟩⟩
  · cases t with
    | zero =>
      simp only [List.getD_cons_zero]
      exact hrep'.flat hfl fun _ g hg' => by rw [hg']; simp [outFrame]
    | succ t => exact RepS.any
  · obtain ⟨hin, hci, h2⟩ := hbox i c hc
    obtain ⟨cur, e, g1, g2, g3, g4, g5⟩ := h.box _ _ h2
    obtain ⟨n1, n2⟩ := hne (fn.ntmps + i) (by omega) (by omega)
    refine ⟨cur, e, g1, g2, (sealF_own h g4 (fun b hb => by simp; omega)).trans g3, ?_, fun j x y hx hy => ((g5 j x y hx hy).to hk (fun b hb => ⟨rfl, hb⟩) fun _ g hg => ⟨rfl, sealF_own h hg (fun b _ => by simp), hg⟩).flat (flat_flatT (hfc' c (List.mem_of_getElem? hci) x (List.mem_of_getElem? hx))) fun _ g hg' => ?_⟩
    · rw [g4]
      simp [outFrame, n1.symm]
    · rw [hg']
      simp [outFrame, (n2 j).symm]

theorem codeK_out {D : (Oracle m)} {H : Hints} {loop : ((St m) → Option (Out m)) → ((St m) → Option (St m)) → (St m) → Option (Out m)} : ∀ (c : Code) (blk : Nat) {β : Type} (k : (Out m) → Option β) (y : β) (s : (St m)), codeK P D H loop blk c s k = some y → ∃ out, k out = some y := by
  intro c
  induction c with
  | skip => intro blk β k y s h; exact ⟨_, h⟩
  | region id ops draw =>
    intro blk β k y s h
    simp only [codeK] at h
    obtain ⟨_, h⟩ := guarded_eq h
    rw [stepsK_bind, Option.bind_eq_some_iff] at h
    obtain ⟨s', _, h⟩ := h
    exact ⟨_, h⟩
  | seq c1 c2 ih1 ih2 =>
    intro blk β k y s h
    simp only [codeK] at h
    obtain ⟨out, ho⟩ := ih1 blk _ y s h
    cases out with
    | norm s' => exact ih2 blk k y s' ho
    | exit id s' => exact ⟨_, ho⟩
    | ret s' => exact ⟨_, ho⟩
  | cond x c1 c2 ih1 ih2 =>
    intro blk β k y s h
    simp only [codeK] at h
    obtain ⟨b, _, h⟩ := onBool_eq h
    rw [branch_eq] at h
    split at h
    · exact ih1 blk k y _ h
    · exact ih2 blk k y _ h
  | block id c ih =>
    intro blk β k y s h
    simp only [codeK] at h
    obtain ⟨out, ho⟩ := ih id _ y s h
    cases out with
    | norm s' => exact ⟨_, ho⟩
    | exit id' s' =>
      simp only [blockK] at ho
      split at ho
      · exact ⟨_, ho⟩
      · exact ⟨_, ho⟩
    | ret s' => exact ⟨_, ho⟩
  | loop c ih =>
    intro blk β k y s h
    simp only [codeK] at h
    rw [Option.bind_eq_some_iff] at h
    obtain ⟨out, _, h⟩ := h
    exact ⟨out, h⟩
  | exit id => intro blk β k y s h; exact ⟨_, h⟩
  | ret => intro blk β k y s h; exact ⟨_, h⟩
  | _ => intro blk β k y s h; simp [codeK] at h

theorem run_sound (hP : P.follows .mixedOrders = true) (hG : P.funcs.all (fun fn => !(fn.name == "runtime.NumGoroutine")) = true) {D : (Oracle m)} (hD : DSound P D) (H : FuncId → Hints) (n : Nat) : DSound P (runV P D H (loopN n)) := by
  intro N f args boxes r hr hh hf
  unfold runV at hr
  split at hr
  · rename_i fn hfn
    split at hr
    · rename_i c hc
      have hname : (fn.name == "runtime.NumGoroutine") = false := by
        rw [Array.all_eq_true_iff_forall_mem] at hG
        have := hG fn (Array.mem_of_getElem? hfn)
        simpa using this
      have base : ∀ (w : World) (F : Fr) (Ow : Own) (bm : Nat → Nat) (vals : Array Value), Inv P { tmps := args, boxes := boxes.map some } vals w F N Ow bm →
          Calls P f vals w fun e w' => ∃ v F' Ow', e = .returned v ∧ Inv P { tmps := [r.1], boxes := r.2.map some } #[v] w' F' N Ow' bm ∧ Far N w F Ow w' F' Ow' := by
        intro w F Ow bm vals h
        refine calls_of_wp hfn hc ?_
        have h1 := h.frame fn hh hf
        have hlen : (enterV fn args boxes).boxes.length = fn.ntmps + boxes.length := by simp [enterV]
        refine code_sound (nt := fn.ntmps) hP hD rfl n (fn.ntmps + boxes.length) (by omega) c 0 _ r (enterV fn args boxes) _ w F _ _ _ hr h1 hlen fun out ex a' w' ho he => ?_
        have fin : ∀ s', leaveV P fn boxes.length s' = some r → Step P N fn.ntmps s' { tmps := vals ++ Array.replicate (fn.ntmps - vals.size) undef, defers := [] } w F (fun g => (Ow g).bind (toFrame fn.ntmps)) (fun b => bm (b - fn.ntmps)) a' w' →
            a'.defers = [] ∧ ∃ v, (results fn a'.tmps).run P w' = .ok v w' ∧ ∃ v1 F' Ow', Ending.returned v = .returned v1 ∧ Inv P { tmps := [r.1], boxes := r.2.map some } #[v1] w' F' N Ow' bm ∧ Far N w F Ow w' F' Ow' := by
          intro s' hl hst
          obtain ⟨F1, O1, b1, k1, k2, k3, k4⟩ := hst
          obtain ⟨l1, l2, l3, u, O2, F2, l4, l5, l7, l6⟩ := k1.leave hl
          refine ⟨k4, u, l4, u, F2, O2, rfl, ?_, ⟨k2.os, k2.tape, k2.output, k2.size, k2.keeps.trans l7, fun g hg ho => ?_⟩⟩
          · have : (fun i => b1 (fn.ntmps + i)) = bm := by
              funext i
              rw [k3 (fn.ntmps + i) (by omega)]
              show bm (fn.ntmps + i - fn.ntmps) = bm i
              rw [Nat.add_sub_cancel_left]
            rw [this] at l5
            exact l5
          · obtain ⟨q1, q2, q3⟩ := k2.old g hg (by simp [ho])
            exact ⟨q1, (l6 g q3).1.trans q2, (l6 g q3).2⟩
        cases out <;> cases ex <;> simp only [Ends] at he
        · exact fin _ ho he.1
        · simp [endK] at ho
        · exact fin _ ho he.1
      have shape : r.2.length = boxes.length ∧ r.1.flatT = true ∧ (∀ cs ∈ r.2, ∀ c ∈ cs, c.flat = true) := by
        obtain ⟨out, ho⟩ := codeK_out c 0 _ r _ hr
        have lv : ∀ s', leaveV P fn boxes.length s' = some r → r.2.length = boxes.length ∧ r.1.flatT = true ∧ (∀ cs ∈ r.2, ∀ c ∈ cs, c.flat = true) := by
          intro s' hl
          unfold leaveV at hl
          rw [Option.bind_eq_some_iff] at hl
          obtain ⟨v, hv, hl⟩ := hl
          obtain ⟨hfl, hl⟩ := guarded_eq hl
          rw [Option.bind_eq_some_iff] at hl
          obtain ⟨cs, hcs, hl⟩ := hl
          obtain ⟨hfc, hl⟩ := guarded_eq hl
          simp only [Option.some.injEq] at hl
          subst hl
          exact ⟨by simpa using (boxesAt_get hcs).1, hfl, fun c hc x hx => List.all_eq_true.1 (List.all_eq_true.1 hfc c hc) x hx⟩
        cases out with
        | norm s => exact lv s ho
        | ret s => exact lv s ho
        | exit id s => simp [endK] at ho
      exact ⟨shape.1, shape.2.1, shape.2.2, ⟨fn, hfn, hname, by rw [hc]; rfl⟩, base⟩
    · simp at hr
  · simp at hr
end
end Go.Vs
