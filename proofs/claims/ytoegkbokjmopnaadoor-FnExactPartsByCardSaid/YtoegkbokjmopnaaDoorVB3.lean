/- What the program's functions compute, read off their text by the shadow runner (VsRun, VsMain, VsLim, VsFast, VsFast2, VsSub, VsLoop, VsAt, VsNm, RNm, RHs); no condition. -/
import Derived.Test.YtoegkbokjmopnaaDoorRows
import Derived.KernelRfl
import Derived.Test.YtoegkbokjmopnaaDoorVB2
section
namespace Go.Vs
variable {m : Bool}
variable {P : Program} {N : Env}
section
variable {s : (St m)} {tmps : Array Value} {w : World} {F : Fr} {Ow : Own} {bm : Nat → Nat}
def locR (s : (St m)) : ResultVar → Loc
  | .tmp t => .tmp t
  | .cell a _ => match s.tmps.getD a .any with | .ptr b p => .box b p | _ => .blk 0
def oneResult (tmps : Array Value) : ResultVar → Sem Value
  | .tmp t => pure (tmps.getD t undef)
  | .cell a t => do loadVar t (← asAddr (tmps.getD a undef))
def cellsIn (w : World) (g : Nat) : Nat := match w.heap[g]? with | some (.cells cur _ _) => cur.size | _ => 0
def sealF (nt : Nat) (s : (St m)) (w : World) (F : Fr) (bm : Nat → Nat) : Fr := fun g => if (List.range nt).any (fun b => full (boxAt s.boxes b) && bm b == g) = true then cellsIn w g else F g
theorem full_eq {x : Option (List (SV m))} (h : full x = true) : ∃ cs, x = some cs ∧ cs ≠ [] := by
  unfold full at h
  split at h
  · exact ⟨_, rfl, by simp⟩
  · simp at h
theorem sealF_eq {nt g : Nat} (hg : ∀ b, b < nt → full (boxAt s.boxes b) = true → bm b ≠ g) : sealF nt s w F bm g = F g := by
  unfold sealF
  rw [if_neg]
  rw [List.any_eq_true]
  rintro ⟨b, hb, hx⟩
  simp only [Bool.and_eq_true, beq_iff_eq] at hx
  exact hg b (List.mem_range.1 hb) hx.1 hx.2
theorem sealF_own (h : Inv P s tmps w F N Ow bm) {nt g : Nat} {loc : Loc} (hg : Ow g = some loc) (hl : ∀ b, b < nt → loc ≠ .blk b) : sealF nt s w F bm g = F g := by
  refine sealF_eq fun b hb hal he => ?_
  obtain ⟨cs, hcs, hne⟩ := full_eq hal
  obtain ⟨_, _, _, _, _, ho, _⟩ := (h.box b cs hcs).resolve_left hne
  rw [he, hg] at ho
  exact hl b hb (by simpa using ho)
theorem sealF_keeps (h : Inv P s tmps w F N Ow bm) (nt : Nat) : Keeps N w F w (sealF nt s w F bm) := by
  refine .mk' (fun _ _ _ => rfl) (fun g => ?_) (fun _ h => h) fun _ _ h => h
  by_cases hx : ∃ b, b < nt ∧ full (boxAt s.boxes b) = true ∧ bm b = g
  · obtain ⟨b, _, hal, rfl⟩ := hx
    obtain ⟨cs, hcs, hne⟩ := full_eq hal
    obtain ⟨_, _, _, _, h0, _, _⟩ := (h.box b cs hcs).resolve_left hne
    rw [h0]; exact Nat.zero_le _
  · rw [sealF_eq fun b hb hal he => hx ⟨b, hb, hal, he⟩]; exact Nat.le_refl _
theorem sealF_box (h : Inv P s tmps w F N Ow bm) {nt b : Nat} {cs : List (SV m)} (hb : b < nt) (hcs : boxAt s.boxes b = some cs) (hne : cs ≠ []) : cs.length ≤ sealF nt s w F bm (bm b) := by
  obtain ⟨cur, e, h1, h2, _⟩ := (h.box b cs hcs).resolve_left hne
  unfold sealF
  rw [if_pos]
  · simp only [cellsIn, h1]; exact h2
  · rw [List.any_eq_true]
    refine ⟨b, List.mem_range.2 hb, ?_⟩
    cases cs with
    | nil => exact absurd rfl hne
    | cons c cs => simp [hcs, full]
theorem chunks_spec {α : Type} {z : Nat} : ∀ (n : Nat) (l : List α), n * z ≤ l.length → (chunks z n l).length = n ∧ (∀ e ∈ chunks z n l, e.length = z) ∧ (chunks z n l).flatten = l.take (n * z)
  | 0, l, _ => by simp [chunks]
  | n + 1, l, h => by
    have hm : (n + 1) * z = n * z + z := Nat.succ_mul _ _
    obtain ⟨h1, h2, h3⟩ := chunks_spec (z := z) n (l.drop z) (by rw [List.length_drop]; omega)
    refine ⟨by simp [chunks, h1], fun e he => ?_, ?_⟩
    · rcases List.mem_cons.1 he with rfl | he
      · rw [List.length_take]; omega
      · exact h2 e he
    · rw [chunks, List.flatten_cons, h3, hm, Nat.add_comm, List.take_add]
theorem seal_rep (h : Inv P s tmps w F N Ow bm) {nt : Nat} {loc : Loc} {x v : (SV m)} {u : Value} (hl : isOwn x = true → ∀ b, b < nt → loc ≠ .blk b) (hx : RepS P w F N Ow bm s.al loc x u) (hs : sealV nt s x = some v) : RepS P w (sealF nt s w F bm) N Ow bm s.al loc v u := by
  have hk := sealF_keeps h nt
  have old : v = x → RepS P w (sealF nt s w F bm) N Ow bm s.al loc v u := fun e => by
    subst e
    exact hx.to hk (fun b hb => ⟨rfl, hb⟩) fun ho g hg => ⟨rfl, sealF_own h hg (hl ho), hg⟩
  cases x with
  | bsl b z lo n =>
    simp only [sealV] at hs
    split at hs
    · rename_i hb
      obtain ⟨hb, rfl⟩ := hb
      rw [Option.bind_eq_some_iff] at hs
      obtain ⟨cs, hcs, hs⟩ := hs
      have hcs' : boxAt s.boxes b = some cs := hcs
      split at hs
      · rename_i hc
        obtain ⟨hle, hz⟩ := hc
        rw [Option.map_eq_some_iff] at hs
        obtain ⟨l, hl', rfl⟩ := hs
        obtain ⟨A, cap, e, hcap, hA⟩ := (hx.bslOf b z 0 n rfl).len
        subst e
        by_cases hn0 : n = 0
        · subst hn0
          refine RepS.leaf ?_
          exact repL_sl_mk (es := []) (z := 0) (vals := []) hcap (by simp) (fun h => by simp at h) (RepR.nil _ _ _)
        obtain rfl := hA (by omega)
        rw [Nat.zero_mul]
        have hnz : 0 < n * z := Nat.mul_pos (by omega) hz
        have hne : cs ≠ [] := by rintro rfl; simp at hle; omega
        obtain ⟨cur, e, h1, h2, h3, h4, h5⟩ := (h.box b cs hcs').resolve_left hne
        have hcl := Array.length_toList (xs := cur)
        have hr : RepR w F N l (cur.toList.take (n * z)) := by
          refine asLeaves_rep (P := P) (Ow := Ow) (bm := bm) (al := s.al) (cs.take (n * z)) _ l (fun j => .box b j) hl' (by simp; omega) fun j c u hc hu => ?_
          rw [List.getElem?_take] at hc hu
          split at hc
          · rename_i hj
            simp only [hj, if_true] at hu
            exact h5 j c u hc (by simpa using hu)
          · simp at hc
        have hll : l.length = n * z := by have := hr.1; rw [List.length_take] at this; omega
        obtain ⟨c1, c2, c3⟩ := chunks_spec (z := z) n l (by omega)
        rw [List.take_of_length_le (by omega)] at c3
        refine RepS.leaf ?_
        have := repL_sl_mk (w := w) (F := sealF nt s w F bm) (N := N) (c := Fl.new m) (es := chunks z n l) (A := some ⟨bm b, 0, none⟩) (cap := cap) (z := z) (vals := cur.toList.take (n * z)) (by rw [c1]; exact hcap) c2 (fun hpos => ⟨bm b, 0, rfl, ⟨by rw [c1] at hpos; rw [List.length_take, Nat.min_eq_left (by omega)]; exact Nat.mul_pos hpos (by omega), Fl.Holds.mk_new (h.bmn b cs hcs') ⟨cur, e, h1⟩⟩, ?_, ⟨fun hh => by rw [Fl.soft_new] at hh; simp at hh, fun hh => absurd (N.lt _ hh) (Nat.not_lt.2 (h.bmn b cs hcs'))⟩, fun j v hj => ?_⟩) (by rw [c3]; exact hr.keeps hk)
        · rw [c1] at this; exact this
        · refine Nat.le_trans ?_ (sealF_box h hb hcs' hne)
          rw [List.length_take]; omega
        · rw [List.getElem?_take] at hj
          split at hj
          · rw [Nat.zero_add, cell_in h1]; simpa using hj
          · simp at hj
      · simp at hs
    · split at hs
      · exact old (by simpa using hs.symm)
      · simp at hs
  | _ => exact old (by simpa [sealV] using hs.symm)
theorem resOne_run {tmps : Array Value} {nt : Nat} {r : ResultVar} {v : (SV m)} (h : Inv P s tmps w F N Ow bm) (hr : resOne P nt s r = some v) :
    ∃ u, (oneResult tmps r).run P w = .ok u w ∧ RepS P w (sealF nt s w F bm) N Ow bm s.al (locR s r) v u ∧ (isOwn v = true → ∀ b p, locR s r = .box b p → b < nt) := by
  cases r with
  | tmp t =>
    simp only [resOne] at hr
    exact ⟨_, rfl, seal_rep (loc := .tmp t) h (fun _ b _ => by simp) (h.slot t) hr, fun _ b p hb => by simp [locR] at hb⟩
  | cell c t =>
    simp only [resOne] at hr
    split at hr
    · rename_i b p hp
      rw [Option.bind_eq_some_iff] at hr
      obtain ⟨cs, hb, hr⟩ := hr
      have hb' : boxAt s.boxes b = some cs := hb
      have hx := h.slot c
      rw [hp] at hx
      have hz : tmps.getD c undef = .pointer (some ⟨bm b, p, none⟩) := by
        have : tmps.getD c undef = .pointer (some ⟨bm b, p, none⟩) ∧ s.al b = true := by simpa only [RepS, RepF] using hx
        exact this.1
      have hloc : locR s (.cell c t) = .box b p := by simp only [locR, hp]
      have hld : ∀ u, (Instr.loadAt t (.pointer (some ⟨bm b, p, none⟩))).run P w = .ok u w → (oneResult tmps (.cell c t)).run P w = .ok u w := by
        intro u hu
        have hu' : (loadVar t ⟨bm b, p, none⟩).run P w = .ok u w := by simpa [Instr.loadAt, Instr.sureAddr] using hu
        simp [oneResult, hz, asAddr, hu']
      have hI : Inv P s (⟨tmps, []⟩ : Act).tmps w F N Ow bm := h
      split at hr
      · rename_i ha
        rw [Option.bind_eq_some_iff] at hr
        obtain ⟨n, hn, hr⟩ := hr
        split at hr
        · rename_i hle
          rw [Option.map_eq_some_iff] at hr
          obtain ⟨l, hl, rfl⟩ := hr
          obtain ⟨vals, hvl, hvc, hrr⟩ := box_cells (a := ⟨tmps, []⟩) hI hb' hle hl
          exact ⟨_, hld _ (load_cells_run (n := n) (p := p) hvl hvc ha hn), RepS.agg (by simpa using hrr.keeps (sealF_keeps h nt)), fun ho => by simp [isOwn] at ho⟩
        · simp at hr
      · rename_i ha
        split at hr
        · rename_i hbn
          have ha' : isAggT P t = false := by simpa using ha
          obtain ⟨d, hd⟩ := isAgg_desc ha'
          have hp' : p < cs.length := (List.getElem?_eq_some_iff.1 hr).1
          obtain ⟨cur, et, h1, h2, h3, h4, h5⟩ := (h.box b cs hb').resolve_left (by rintro rfl; simp at hp')
          have hpc : p < cur.size := Nat.lt_of_lt_of_le hp' h2
          have hu : cur[p]? = some cur[p] := by simp [hpc]
          refine ⟨cur[p], hld _ (load_cell_run h1 hd ha' hu), by rw [hloc]; exact (h5 p v _ hr hu).to (sealF_keeps h nt) (fun b hb => ⟨rfl, hb⟩) fun _ g hg => ⟨rfl, sealF_own h hg (fun b _ => by simp), hg⟩, fun _ b' p' hb'' => ?_⟩
          rw [hloc] at hb''
          cases hb''
          exact hbn
        · simp at hr
    · simp at hr
theorem resAll_run {tmps : Array Value} {nt : Nat} (h : Inv P s tmps w F N Ow bm) : ∀ (rs : List ResultVar) (vs : List (SV m)), resAll P nt s rs = some vs → ∃ us, (rs.mapM (oneResult tmps)).run P w = .ok us w ∧ us.length = vs.length ∧
    ∀ (j : Nat) (c : (SV m)) (u : Value), vs[j]? = some c → us[j]? = some u → ∃ loc, RepS P w (sealF nt s w F bm) N Ow bm s.al loc c u ∧ isOwn c = false
  | [], vs, hr => by simp [resAll] at hr; subst hr; exact ⟨[], by simp, rfl, by simp⟩
  | r :: rs, vs, hr => by
    simp only [resAll] at hr
    rw [Option.bind_eq_some_iff] at hr
    obtain ⟨v, hv, hr⟩ := hr
    rw [Option.map_eq_some_iff] at hr
    obtain ⟨vs', hvs, rfl⟩ := hr
    obtain ⟨u, hu, hrep, _⟩ := resOne_run h hv
    obtain ⟨us, h1, h2, h3⟩ := resAll_run h rs vs' hvs
    refine ⟨u :: us, by simp [List.mapM_cons, hu, h1], by simp [h2], fun j c x hc hx => ?_⟩
    cases j with
    | zero => simp at hc hx; subst hc hx; exact ⟨_, RepS.drop (Ow' := Ow) (loc' := .blk 0) hrep, drop_not_own _⟩
    | succ j => exact h3 j c x (by simpa using hc) (by simpa using hx)
theorem results_eq (fn : Func) (tmps : Array Value) : results fn tmps = (do let vs ← fn.results.mapM (oneResult tmps); pure (if h : vs.size = 1 then vs[0] else .tuple vs)) := by
  unfold results
  congr 1
theorem resultV_run {tmps : Array Value} {fn : Func} {v : (SV m)} (h : Inv P s tmps w F N Ow bm) (hr : resultV P fn s = some v) {nn : Nat} (hfl : SV.homeOk fn.ntmps nn v = true) :
    ∃ u loc, (results fn tmps).run P w = .ok u w ∧ RepS P w (sealF fn.ntmps s w F bm) N Ow bm s.al loc v u ∧ (isOwn v = true → (∃ t, loc = .tmp t) ∨ ∃ b p, loc = .box b p ∧ b < fn.ntmps) := by
  unfold resultV at hr
  rw [results_eq]
  split at hr
  · rename_i r hrs
    have hrs' : fn.results = #[r] := by rw [← hrs]
    obtain ⟨u, hu, hrep, hown⟩ := resOne_run h hr
    refine ⟨u, locR s r, by rw [hrs']; simp [hu], hrep, fun ho => ?_⟩
    cases r with
    | tmp t => exact .inl ⟨t, rfl⟩
    | cell c t =>
      cases hp : s.tmps.getD c .any with
      | ptr b p => exact .inr ⟨b, p, by simp only [locR, hp], hown ho b p (by simp only [locR, hp])⟩
      | _ => simp only [resOne, hp] at hr; simp at hr
  · rename_i hne
    rw [Option.map_eq_some_iff] at hr
    obtain ⟨vs, hvs, rfl⟩ := hr
    obtain ⟨us, h1, h2, h3⟩ := resAll_run h _ vs hvs
    have hlen : us.length = fn.results.toList.length := by
      have : ∀ (rs : List ResultVar) (vs : List (SV m)), resAll P fn.ntmps s rs = some vs → vs.length = rs.length := by
        intro rs
        induction rs with
        | nil => intro vs h; simp [resAll] at h; subst h; rfl
        | cons r rs ih =>
          intro vs h
          simp only [resAll] at h
          rw [Option.bind_eq_some_iff] at h
          obtain ⟨v, _, h⟩ := h
          rw [Option.map_eq_some_iff] at h
          obtain ⟨vs', hvs, rfl⟩ := h
          simp [ih vs' hvs]
      rw [h2, this _ _ hvs]
    have hn1 : us.length ≠ 1 := by
      intro he
      rw [hlen] at he
      obtain ⟨r, hr⟩ := List.length_eq_one_iff.1 he
      exact hne r hr
    refine ⟨.tuple us.toArray, .blk 0, ?_, ⟨us.toArray, rfl, by simpa using h2, fun j c u hc hu => ?_⟩, fun ho => by simp [isOwn] at ho⟩
    · rw [Array.mapM_eq_mapM_toList]
      simp [h1, hn1]
    · obtain ⟨loc, hrep, hno⟩ := h3 j c u hc (by simpa using hu)
      have hfl : (SV.tup vs).flatT = true := hfl
      cases c with
      | own eo es => simp [isOwn] at hno
      | raw eo es => simp [isOwn] at hno
      | fn g caps => have := List.all_eq_true.1 hfl _ (List.mem_of_getElem? hc); simp [SV.flat] at this
      | tup vs => have := List.all_eq_true.1 hfl _ (List.mem_of_getElem? hc); simp [SV.flat] at this
      | _ => simpa only [RepS] using hrep
def toFrame (n : Nat) : Loc → Option Loc
  | .tmp t => some (.tmp t)
  | .blk i => some (.blk (n + i))
  | .box i j => some (.box (n + i) j)
def outFrame (lr : Loc) (n : Nat) (l : Loc) : Option Loc :=
  if l = lr then some (.tmp 0) else match l with
    | .tmp _ => none
    | .blk b => if n ≤ b then some (.blk (b - n)) else none
    | .box b j => if n ≤ b then some (.box (b - n) j) else none
theorem boxAt_pad {n : Nat} {bs : (Boxes m)} {b : Nat} : boxAt (List.replicate n none ++ bs) b = if b < n then none else boxAt bs (b - n) := by
  unfold boxAt
  rw [List.getD_eq_getElem?_getD]
  split
  · rename_i h
    rw [List.getElem?_append_left (by simpa using h), List.getElem?_replicate]
    simp [h]
  · rename_i h
    rw [List.getElem?_append_right (by simpa using Nat.le_of_not_lt h), List.length_replicate, List.getD_eq_getElem?_getD]
theorem RepS.renamed {w : World} {F : Fr} {Ow Ow' : Own} {bm bm' : Nat → Nat} {al al' : Nat → Bool} {loc loc' : Loc} {x : (SV m)} {v : Value} {f : Nat → Nat} (h : RepS P w F N Ow bm al loc x v) (hx : x.handed = true)
    (hb : ∀ b, al b = true → bm' (f b) = bm b ∧ al' (f b) = true) (ho : isOwn x = true → ∀ g, Ow g = some loc → Ow' g = some loc') : RepS P w F N Ow' bm' al' loc' (x.ren f) v := by
  refine h.handed hx (fun b hb' => hb b ?_) ho
  cases x with
  | ptr c o =>
    have : b = c := by simpa [SV.boxIds] using hb'
    subst this
    have h' : RepF (m := m) w F N bm al (.ptr b o) v := by simpa only [RepS] using h
    exact h'.2
  | bsl c z lo n =>
    have : b = c := by simpa [SV.boxIds] using hb'
    subst this
    exact (h.bslOf b z lo n rfl).2
  | fn g caps =>
    obtain ⟨vs, e, hs, hc⟩ := h
    obtain ⟨c, hc1, hc2⟩ := List.mem_flatMap.1 hb'
    obtain ⟨j, hj⟩ := List.getElem?_of_mem hc1
    have hlt : j < vs.size := by rw [hs]; exact (List.getElem?_eq_some_iff.1 hj).1
    have h0 := hc j c _ hj (Array.getElem?_eq_getElem hlt)
    cases c with
    | ptr d o =>
      have : b = d := by simpa using hc2
      subst this
      exact h0.2
    | kfn g' cs => exact h0.kal hc2
    | _ => simp at hc2
  | kfn g cs =>
    have h' : RepF (m := m) w F N bm al (.kfn g cs) v := by simpa only [RepS] using h
    exact h'.kal hb'
  | _ => simp [SV.boxIds] at hb'
theorem Inv.frame {args : List (SV m)} {boxes : List (List (SV m))} {vals : Array Value} (h : Inv P { tmps := args, boxes := boxes.map some } vals w F N Ow bm) (fn : Func) (hh : args.all SV.handed = true) (hf : ∀ c ∈ boxes, ∀ x ∈ c, x.flat = true) :
    Inv P (enterV fn args boxes) (vals ++ Array.replicate (fn.ntmps - vals.size) undef) w F N (fun g => (Ow g).bind (toFrame fn.ntmps)) (fun b => bm (b - fn.ntmps)) := by
  have hlen : args.length = vals.size := h.len
  have hal : ∀ b, (boxAt (boxes.map some) b).isSome = true → bm (fn.ntmps + b - fn.ntmps) = bm b ∧ (boxAt (List.replicate fn.ntmps none ++ boxes.map some) (fn.ntmps + b)).isSome = true := by
    intro b hb
    rw [boxAt_pad, if_neg (by omega), Nat.add_sub_cancel_left]
    exact ⟨rfl, hb⟩
  refine ⟨by simp [enterV, padTo, hlen], fun t => ?_, fun b cs hb => ?_, h.low, fun g hg => ⟨(h.new g hg).1, by simp [(h.new g hg).2]⟩, fun b cs hb => ?_, fun g hz => ⟨by simp [(h.zow g hz).1], (h.zow g hz).2⟩⟩
  rotate_right
  · have hb' : boxAt (List.replicate fn.ntmps none ++ boxes.map some) b = some cs := hb
    rw [boxAt_pad] at hb'
    split at hb'
    · simp at hb'
    · exact h.bmn _ cs hb'
  · show RepS P w F N _ _ (fun b => (boxAt (List.replicate fn.ntmps none ++ boxes.map some) b).isSome) (.tmp t) ((padTo fn.ntmps (args.map (SV.ren (fn.ntmps + ·)))).getD t .any) _
    rw [List.getD_eq_getElem?_getD, Array.getD_eq_getD_getElem?]
    unfold padTo
    by_cases ht : t < args.length
    · rw [List.getElem?_append_left (by simpa using ht), List.getElem?_map, List.getElem?_eq_getElem ht, Array.getElem?_append_left (by omega), Array.getElem?_eq_getElem (by omega)]
      simp only [Option.map_some, Option.getD_some]
      have hs := h.slot t
      have e1 : args.getD t .any = args[t] := by rw [List.getD_eq_getElem?_getD, List.getElem?_eq_getElem ht]; rfl
      have e2 : vals.getD t undef = vals[t]'(by omega) := by simp [Array.getD, show t < vals.size by omega]
      simp only at hs
      rw [e1, e2] at hs
      exact hs.renamed (List.all_eq_true.1 hh _ (List.getElem_mem ht)) hal fun _ g hg => by rw [hg]; rfl
    · rw [List.getElem?_append_right (by simpa using Nat.le_of_not_lt ht), Array.getElem?_append_right (by omega), List.getElem?_replicate]
      split
      · rename_i hl
        simp only [List.length_map] at hl
        rw [Array.getElem?_replicate, if_pos (by omega)]
        simp only [Option.getD_some, RepS, RepF]
      · exact RepS.any
  · have hb' : boxAt (List.replicate fn.ntmps none ++ boxes.map some) b = some cs := hb
    rw [boxAt_pad] at hb'
    split at hb'
    · simp at hb'
    · rename_i hlt
      rcases h.box (b - fn.ntmps) cs hb' with g0 | ⟨cur, e, g1, g2, g3, g4, g5⟩
      · exact .inl g0
      have hmem : cs ∈ boxes := by
        have hl := boxAt_lt hb'
        unfold boxAt at hb'
        rw [List.getD_eq_getElem?_getD, List.getElem?_map] at hb'
        cases hx : boxes[b - fn.ntmps]? with
        | none => rw [hx] at hb'; simp at hb'
        | some y => rw [hx] at hb'; simp at hb'; subst hb'; exact List.mem_of_getElem? hx
      have hbb : fn.ntmps + (b - fn.ntmps) = b := by omega
      refine .inr ⟨cur, e, g1, g2, g3, by rw [g4]; simp [toFrame, hbb], fun j c u hc hu => (g5 j c u hc hu).flat (flat_flatT (hf cs hmem c (List.mem_of_getElem? hc))) fun _ g hg => ?_⟩
      rw [hg]
      simp [toFrame, hbb]
theorem homeOk_cases {nt n : Nat} {x : SV m} (h : SV.homeOk nt n x = true) : (∃ b z lo k, x = .bsl b z lo k ∧ nt ≤ b ∧ b < nt + n) ∨ x.flatT = true := by
  cases x
  case bsl b z lo k => exact .inl ⟨b, z, lo, k, rfl, by simpa only [SV.homeOk, Bool.and_eq_true, decide_eq_true_eq] using h⟩
  all_goals exact .inr h
theorem home_back {nt n : Nat} {x : SV m} (h : SV.homeOk nt n x = true) : (x.ren (· - nt)).backOk n = true := by
  rcases homeOk_cases h with ⟨b, z, lo, k, rfl, h1, h2⟩ | h'
  · simp only [SV.ren, SV.backOk, decide_eq_true_eq]; omega
  · rw [flatT_ren h']
    cases x <;> first | exact h' | simp [SV.flatT, SV.flat] at h'
theorem RepS.home {w : World} {F : Fr} {Ow Ow' : Own} {bm bm' : Nat → Nat} {al al' : Nat → Bool} {loc loc' : Loc} {x : (SV m)} {v : Value} {f : Nat → Nat} {nt n : Nat} (h : RepS P w F N Ow bm al loc x v) (hx : SV.homeOk nt n x = true)
    (hb : ∀ b, nt ≤ b → b < nt + n → bm' (f b) = bm b ∧ al' (f b) = true) (ho : isOwn x = true → ∀ g, Ow g = some loc → Ow' g = some loc') : RepS P w F N Ow' bm' al' loc' (x.ren f) v := by
  rcases homeOk_cases hx with ⟨b, z, lo, k, rfl, h1, h2⟩ | hx'
  · exact h.handed rfl (fun c hc => by
      obtain rfl : c = b := by simpa [SV.boxIds] using hc
      exact hb c h1 h2) ho
  · rw [flatT_ren hx']
    exact h.flat hx' ho
theorem Inv.leave {s : (St m)} {tmps : Array Value} {fn : Func} {n : Nat} {r : (SV m) × List (List (SV m))} (h : Inv P s tmps w F N Ow bm) (hr : leaveV P fn n s = some r) :
    r.2.length = n ∧ r.1.backOk n = true ∧ (∀ cs ∈ r.2, ∀ c ∈ cs, c.flat = true) ∧ ∃ u Ow' F', (results fn tmps).run P w = .ok u w ∧ Inv P { tmps := [r.1], boxes := r.2.map some } #[u] w F' N Ow' (fun i => bm (fn.ntmps + i)) ∧ Keeps N w F w F' ∧ ∀ g, Ow g = none → F' g = F g ∧ Ow' g = none := by
  have hk := sealF_keeps h fn.ntmps
  unfold leaveV at hr
  rw [Option.bind_eq_some_iff] at hr
  obtain ⟨v, hv, hr⟩ := hr
  obtain ⟨hfl, hr⟩ := guarded_eq hr
  rw [Option.bind_eq_some_iff] at hr
  obtain ⟨cs, hcs, hr⟩ := hr
  obtain ⟨hfc, hr⟩ := guarded_eq hr
  simp only [Option.some.injEq] at hr
  subst hr
  obtain ⟨hl, hg⟩ := boxesAt_get hcs
  simp only [List.length_map, List.length_range] at hl
  have hfc' : ∀ c ∈ cs, ∀ x ∈ c, x.flat = true := fun c hc x hx => List.all_eq_true.1 (List.all_eq_true.1 hfc c hc) x hx
  obtain ⟨u, lr, hrun, hrep, hown⟩ := resultV_run h hv hfl
  have hlr : ∃ lr', RepS P w (sealF fn.ntmps s w F bm) N Ow bm s.al lr' v u ∧ (∀ b, n ≠ 0 → fn.ntmps ≤ b → lr' ≠ .blk b ∧ ∀ j, lr' ≠ .box b j) := by
    cases ho : isOwn v with
    | true =>
      rcases hown ho with ⟨t, rfl⟩ | ⟨b, p, rfl, hb⟩
      · exact ⟨_, hrep, fun b _ _ => ⟨by simp, by simp⟩⟩
      · refine ⟨_, hrep, fun c _ hc => ⟨by simp, fun j he => ?_⟩⟩
        cases he
        exact absurd hb (Nat.not_lt.2 hc)
    | false => exact ⟨.tmp 0, hrep.to (Keeps.refl _ _) (fun b hb => ⟨rfl, hb⟩) (fun h => by rw [ho] at h; simp at h), fun b _ _ => ⟨by simp, by simp⟩⟩
  obtain ⟨lr', hrep', hne⟩ := hlr
  have hnone : ∀ g, Ow g = none → sealF fn.ntmps s w F bm g = F g := fun g hg' => sealF_eq fun b hb hal he => by
    obtain ⟨cs0, hcs0, hne0⟩ := full_eq hal
    obtain ⟨_, _, _, _, _, ho, _⟩ := (h.box b cs0 hcs0).resolve_left hne0
    rw [he, hg'] at ho
    simp at ho
  have hbox : ∀ i c, boxAt (cs.map some) i = some c → i < n ∧ cs[i]? = some c ∧ boxAt s.boxes (fn.ntmps + i) = some c := by
    intro i c hc'
    have hci : cs[i]? = some c := by
      unfold boxAt at hc'
      rw [List.getD_eq_getElem?_getD, List.getElem?_map] at hc'
      cases hx : cs[i]? with
      | none => rw [hx] at hc'; simp at hc'
      | some y => rw [hx] at hc'; simpa using hc'
    have hin : i < n := by rw [← hl]; exact (List.getElem?_eq_some_iff.1 hci).1
    obtain ⟨c2, h1, h2⟩ := hg i (fn.ntmps + i) (by rw [List.getElem?_map, List.getElem?_range hin]; rfl)
    rw [hci] at h1
    cases h1
    exact ⟨hin, hci, h2⟩
  refine ⟨hl, home_back hfl, hfc', u, fun g => (Ow g).bind (outFrame lr' fn.ntmps), sealF fn.ntmps s w F bm, hrun, ⟨rfl, fun t => ?_, fun i c hc => ?_, h.low.to (sealF_keeps h _) (Nat.le_refl _), fun g hg' => ⟨(hnone g (h.new g hg').2).trans (h.new g hg').1, by simp [(h.new g hg').2]⟩, fun i c hc => h.bmn _ c (hbox i c hc).2.2, fun g hz => ⟨by simp [(h.zow g hz).1], (h.zow g hz).2⟩⟩, hk, fun g hg' => ⟨hnone g hg', by simp [hg']⟩⟩
  · cases t with
    | zero =>
      simp only [List.getD_cons_zero]
      refine hrep'.home hfl (fun b h1 h2 => ⟨by show bm (fn.ntmps + (b - fn.ntmps)) = bm b; rw [Nat.add_sub_cancel' h1], ?_⟩) fun _ g hg' => by rw [hg']; simp [outFrame]
      show (boxAt (cs.map some) (b - fn.ntmps)).isSome = true
      unfold boxAt
      rw [List.getD_eq_getElem?_getD, List.getElem?_map, List.getElem?_eq_getElem (by omega)]; rfl
    | succ t => exact RepS.any
  · obtain ⟨hin, hci, h2⟩ := hbox i c hc
    rcases h.box _ _ h2 with g0 | ⟨cur, e, g1, g2, g3, g4, g5⟩
    · exact .inl g0
    obtain ⟨n1, n2⟩ := hne (fn.ntmps + i) (by omega) (by omega)
    refine .inr ⟨cur, e, g1, g2, (sealF_own h g4 (fun b hb => by simp; omega)).trans g3, ?_, fun j x y hx hy => ((g5 j x y hx hy).to hk (fun b hb => ⟨rfl, hb⟩) fun _ g hg => ⟨rfl, sealF_own h hg (fun b _ => by simp), hg⟩).flat (flat_flatT (hfc' c (List.mem_of_getElem? hci) x (List.mem_of_getElem? hx))) fun _ g hg' => ?_⟩
    · rw [g4]
      simp [outFrame, n1.symm]
    · rw [hg']
      simp [outFrame, (n2 j).symm]
theorem codeK_out {D : (Oracle m)} {H : Hints} {loop : ((St m) → Option (Out m)) → ((St m) → Option (St m)) → (St m) → Option (Out m)} : ∀ (c : Code) (blk : Nat) {β : Type} (k : (Out m) → Option β) (y : β) (s : (St m)), codeK P D H loop blk c s k = some y → ∃ out, k out = some y := by
  intro c
  induction c with
  | skip => intro blk β k y s h; exact ⟨_, h⟩
  | region id ops draw =>
    intro blk β k y s h
    simp only [codeK] at h
    obtain ⟨_, h⟩ := guarded_eq h
    rw [stepsK_bind, Option.bind_eq_some_iff] at h
    obtain ⟨s', _, h⟩ := h
    exact ⟨_, h⟩
  | seq c1 c2 ih1 ih2 =>
    intro blk β k y s h
    simp only [codeK] at h
    obtain ⟨out, ho⟩ := ih1 blk _ y s h
    cases out with
    | norm s' => exact ih2 blk k y s' ho
    | exit id s' => exact ⟨_, ho⟩
    | ret s' => exact ⟨_, ho⟩
  | cond x c1 c2 ih1 ih2 =>
    intro blk β k y s h
    simp only [codeK] at h
    obtain ⟨b, _, h⟩ := onBool_eq h
    rw [branch_eq] at h
    split at h
    · exact ih1 blk k y _ h
    · exact ih2 blk k y _ h
  | block id c ih =>
    intro blk β k y s h
    simp only [codeK] at h
    obtain ⟨out, ho⟩ := ih id _ y s h
    cases out with
    | norm s' => exact ⟨_, ho⟩
    | exit id' s' =>
      simp only [blockK] at ho
      split at ho
      · exact ⟨_, ho⟩
      · exact ⟨_, ho⟩
    | ret s' => exact ⟨_, ho⟩
  | loop c ih =>
    intro blk β k y s h
    simp only [codeK] at h
    rw [Option.bind_eq_some_iff] at h
    obtain ⟨out, _, h⟩ := h
    exact ⟨out, h⟩
  | exit id => intro blk β k y s h; exact ⟨_, h⟩
  | ret => intro blk β k y s h; exact ⟨_, h⟩
  | _ => intro blk β k y s h; simp [codeK] at h
theorem run_sound (hP : P.follows .mixedOrders = true) (hG : P.funcs.all (fun fn => !(fn.name == "runtime.NumGoroutine")) = true) {D : (Oracle m)} (hD : DSound P N D) (H : FuncId → Hints) (n : Nat) : DSound P N (runV P D H (loopN n)) := by
  intro f args boxes r hr hh hf
  unfold runV at hr
  split at hr
  · rename_i fn hfn
    split at hr
    · rename_i c hc
      have hname : (fn.name == "runtime.NumGoroutine") = false := by
        rw [Array.all_eq_true_iff_forall_mem] at hG
        have := hG fn (Array.mem_of_getElem? hfn)
        simpa using this
      have base : ∀ (w : World) (F : Fr) (Ow : Own) (bm : Nat → Nat) (vals : Array Value), Inv P { tmps := args, boxes := boxes.map some } vals w F N Ow bm →
          Calls P f vals w fun e w' => ∃ v F' Ow', e = .returned v ∧ Inv P { tmps := [r.1], boxes := r.2.map some } #[v] w' F' N Ow' bm ∧ Far N w F Ow w' F' Ow' := by
        intro w F Ow bm vals h
        refine calls_of_wp hfn hc ?_
        have h1 := h.frame fn hh hf
        obtain ⟨F0, O0, b0, e1, e2, e3⟩ := h1.freeze fn.ntmps ((H f).fz 1048576)
        have hlen : (St.freeze fn.ntmps (enterV fn args boxes) ((H f).fz 1048576)).boxes.length = fn.ntmps + boxes.length := by rw [freeze_length]; simp [enterV]
        refine code_sound (nt := fn.ntmps) hP hD rfl n (fn.ntmps + boxes.length) (by omega) c 0 _ r _ { tmps := vals ++ Array.replicate (fn.ntmps - vals.size) undef, defers := [] } w F0 O0 b0 _ hr e1 hlen fun out ex a' w' ho he => ?_
        have fin : ∀ s', leaveV P fn boxes.length s' = some r → Step P N fn.ntmps s' { tmps := vals ++ Array.replicate (fn.ntmps - vals.size) undef, defers := [] } w F0 O0 b0 a' w' →
            a'.defers = [] ∧ ∃ v, (results fn a'.tmps).run P w' = .ok v w' ∧ ∃ v1 F' Ow', Ending.returned v = .returned v1 ∧ Inv P { tmps := [r.1], boxes := r.2.map some } #[v1] w' F' N Ow' bm ∧ Far N w F Ow w' F' Ow' := by
          intro s' hl hst
          obtain ⟨F1, O1, b1, k1, k2, k3, k4⟩ := hst
          replace k2 := e2.trans k2
          obtain ⟨l1, l2, l3, u, O2, F2, l4, l5, l7, l6⟩ := k1.leave hl
          refine ⟨k4, u, l4, u, F2, O2, rfl, ?_, ⟨k2.os, k2.tape, k2.output, k2.size, k2.keeps.trans l7, fun g hg ho => ?_⟩⟩
          · have : (fun i => b1 (fn.ntmps + i)) = bm := by
              funext i
              rw [k3 (fn.ntmps + i) (by omega), e3 (fn.ntmps + i) (by omega)]
              show bm (fn.ntmps + i - fn.ntmps) = bm i
              rw [Nat.add_sub_cancel_left]
            rw [this] at l5
            exact l5
          · obtain ⟨q1, q2, q3⟩ := k2.old g hg (by simp [ho])
            exact ⟨q1, (l6 g q3).1.trans q2, (l6 g q3).2⟩
        cases out <;> cases ex <;> simp only [Ends] at he
        · exact fin _ ho he.1
        · simp [endK] at ho
        · exact fin _ ho he.1
      have shape : r.2.length = boxes.length ∧ r.1.backOk boxes.length = true ∧ (∀ cs ∈ r.2, ∀ c ∈ cs, c.flat = true) := by
        obtain ⟨out, ho⟩ := codeK_out c 0 _ r _ hr
        have lv : ∀ s', leaveV P fn boxes.length s' = some r → r.2.length = boxes.length ∧ r.1.backOk boxes.length = true ∧ (∀ cs ∈ r.2, ∀ c ∈ cs, c.flat = true) := by
          intro s' hl
          unfold leaveV at hl
          rw [Option.bind_eq_some_iff] at hl
          obtain ⟨v, hv, hl⟩ := hl
          obtain ⟨hfl, hl⟩ := guarded_eq hl
          rw [Option.bind_eq_some_iff] at hl
          obtain ⟨cs, hcs, hl⟩ := hl
          obtain ⟨hfc, hl⟩ := guarded_eq hl
          simp only [Option.some.injEq] at hl
          subst hl
          exact ⟨by simpa using (boxesAt_get hcs).1, home_back hfl, fun c hc x hx => List.all_eq_true.1 (List.all_eq_true.1 hfc c hc) x hx⟩
        cases out with
        | norm s => exact lv s ho
        | ret s => exact lv s ho
        | exit id s => simp [endK] at ho
      exact ⟨shape.1, shape.2.1, shape.2.2, ⟨fn, hfn, hname, by rw [hc]; rfl⟩, base⟩
    · simp at hr
  · simp at hr
end
end Go.Vs
end
section
namespace Go.Vs
variable {m : Bool}
variable {P : Program} {N : Env}
def TSound (P : Program) (N : Env) (T : (Told m)) : Prop := ∀ (f : FuncId) t, T f = some t → DSound P N (fun g args boxes => if g = f then t args boxes else none)
theorem call_sound (hP : P.follows .mixedOrders = true) (hG : P.funcs.all (fun fn => !(fn.name == "runtime.NumGoroutine")) = true) {T : (Told m)} (hT : TSound P N T) (H : FuncId → Hints) : ∀ n, DSound P N (callN P T H n)
  | 0 => by intro f args boxes r hr; simp [callN] at hr
  | n + 1 => by
    intro f args boxes r hr
    simp only [callN] at hr
    split at hr
    · rename_i t ht
      exact hT f t ht f args boxes r (by simpa using hr)
    · exact run_sound hP hG (call_sound hP hG hT H n) H n f args boxes r hr
def Le {α : Type} (x y : Option α) : Prop := ∀ a, x = some a → y = some a
theorem tsound_none : TSound (m := m) P N (fun _ => none) := by intro f t h; simp at h
end Go.Vs
end
section
set_option linter.unusedVariables false
set_option linter.unusedSimpArgs false
namespace Go.Vs
variable {m : Bool}
variable {P : Program}
def DLe (D D' : (Oracle m)) : Prop := ∀ f a b r, D f a b = some r → D' f a b = some r
theorem effO_D {D D' : (Oracle m)} {nt : Nat} {mv pu ta : Bool} {o : Oper} {ρ : Operand → (SV m)} {bs : (Boxes m)} (h : ∀ c g, o.op = .call c → c.callee ≠ .value g) : effO P D nt mv pu ta o ρ bs = effO P D' nt mv pu ta o ρ bs := by
  cases hop : o.op
  case call c =>
    cases hc : c.callee with
    | value g => exact absurd hc (h c g hop)
    | builtin b => simp only [effO, hop, hc]
    | invoke r m => simp only [effO, hop, hc]
  all_goals simp only [effO, hop]
theorem callE_to {D D' : (Oracle m)} {bs : (Boxes m)} {pu : Bool} {f : FuncId} {args : List (SV m)} {q : (SV m) × Option (Boxes m)} (h : callE D bs pu f args = some q) (hD : ∀ g a b r, D g a b = some r → D' g a b = some r) : callE D' bs pu f args = some q := by
  unfold callE at h ⊢
  obtain ⟨h1, h2⟩ := guarded_eq h
  rw [h1]
  simp only [guarded]
  split at h2
  · rename_i hp
    rw [if_pos hp]
    split at h2
    · rename_i hi
      rw [if_pos hi]
      rw [Option.map_eq_some_iff] at h2 ⊢
      obtain ⟨r, hr, he⟩ := h2
      exact ⟨r, hD _ _ _ _ hr, he⟩
    · simp at h2
  · rename_i hp
    rw [if_neg hp]
    rw [Option.bind_eq_some_iff] at h2 ⊢
    obtain ⟨cs, hcs, h3⟩ := h2
    refine ⟨cs, hcs, ?_⟩
    obtain ⟨h4, h5⟩ := guarded_eq h3
    rw [h4]
    simp only
    rw [Option.map_eq_some_iff] at h5 ⊢
    obtain ⟨r, hr, he⟩ := h5
    exact ⟨r, hD _ _ _ _ hr, he⟩
theorem callE_once {D : (Oracle m)} {bs : (Boxes m)} {pu : Bool} {f : FuncId} {args : List (SV m)} {q : (SV m) × Option (Boxes m)} (h : callE D bs pu f args = some q) : ∃ a b r, D f a b = some r ∧ ∀ D' : (Oracle m), D' f a b = some r → callE D' bs pu f args = some q := by
  unfold callE at h
  obtain ⟨h1, h2⟩ := guarded_eq h
  split at h2
  · rename_i hp
    split at h2
    · rename_i hi
      rw [Option.map_eq_some_iff] at h2
      obtain ⟨r, hr, he⟩ := h2
      refine ⟨args, [], r, hr, fun D' hd => ?_⟩
      unfold callE
      rw [h1]
      simp only [guarded, if_pos hp, if_pos hi, hd, Option.map_some, he]
    · simp at h2
  · rename_i hp
    rw [Option.bind_eq_some_iff] at h2
    obtain ⟨cs, hcs, h3⟩ := h2
    obtain ⟨h4, h5⟩ := guarded_eq h3
    rw [Option.map_eq_some_iff] at h5
    obtain ⟨r, hr, he⟩ := h5
    refine ⟨_, cs, r, hr, fun D' hd => ?_⟩
    unfold callE
    rw [h1]
    simp only [guarded, if_neg hp, hcs, Option.bind_some, h4, hd, Option.map_some, he]
theorem effO_once {D : (Oracle m)} {nt : Nat} {mv pu ta : Bool} {o : Oper} {ρ : Operand → (SV m)} {bs : (Boxes m)} {e : (Eff m)} (h : effO P D nt mv pu ta o ρ bs = some e) :
    (∀ D', effO P D' nt mv pu ta o ρ bs = some e) ∨ ∃ f a b r, D f a b = some r ∧ ∀ D' : (Oracle m), D' f a b = some r → effO P D' nt mv pu ta o ρ bs = some e := by
  by_cases hv : ∀ c g, o.op = .call c → c.callee ≠ .value g
  · exact .inl fun D' => by rw [← effO_D (D := D) hv]; exact h
  · right
    have : ∃ c g, o.op = .call c ∧ c.callee = .value g := by
      refine Classical.byContradiction fun hn => hv fun c g hop hc => hn ⟨c, g, hop, hc⟩
    obtain ⟨c, g, hop, hc⟩ := this
    simp only [effO, hop, hc] at h ⊢
    split at h
    · rename_i f caps hge
      obtain ⟨h1, h2⟩ := guarded_eq h
      rw [Option.map_eq_some_iff] at h2
      obtain ⟨q, hq, he⟩ := h2
      obtain ⟨a, b, r, hr, hall⟩ := callE_once hq
      refine ⟨f, a, b, r, hr, fun D' hd => ?_⟩
      simp only [h1, guarded, hall D' hd, Option.map_some, he]
    · simp at h
section
variable {nt : Nat} {mv pu ta : Nat → Bool} {ops : Array Oper}
theorem stepE_once {D : (Oracle m)} {mq p qa : Bool} {o : Oper} {s : (St m)} {e : (Eff m)} (h : stepE P D nt mq p qa ops o s = some e) :
    (∀ D', stepE P D' nt mq p qa ops o s = some e) ∨ ∃ f a b r, D f a b = some r ∧ ∀ D' : (Oracle m), D' f a b = some r → stepE P D' nt mq p qa ops o s = some e := by
  unfold stepE at h ⊢
  split at h
  · exact effO_once h
  · rename_i j want hg
    split at h
    · rename_i t ht
      unfold onGuard at h ⊢
      split at h
      · rename_i b hb
        rw [branch_eq] at h
        split at h
        · rename_i hbw
          simp only [branch_eq, hbw, if_true]
          exact effO_once h
        · rename_i hbw
          simp only [branch_eq, hbw]
          exact .inl fun _ => h
      · exact .inl fun _ => h
      · simp at h
    · simp at h
structure Chain (Dn : Nat → (Oracle m)) (D : (Oracle m)) : Prop where
  mono : ∀ n m, n ≤ m → DLe (Dn n) (Dn m)
  lim : ∀ f a b r, D f a b = some r → ∃ n, Dn n f a b = some r
theorem stepsK_lim {Dn : Nat → (Oracle m)} {D : (Oracle m)} (hC : Chain Dn D) : ∀ (l : List Oper) (i : Nat) (s s' : (St m)), stepsK P D nt mv pu ta ops l i s some = some s' → ∃ n, ∀ m, n ≤ m → stepsK P (Dn m) nt mv pu ta ops l i s some = some s'
  | [], i, s, s', h => ⟨0, fun _ _ => h⟩
  | o :: l, i, s, s', h => by
    simp only [stepsK, stepK_eff] at h
    obtain ⟨e, he, hrest⟩ := Option.bind_eq_some_iff.1 h
    obtain ⟨n2, h2⟩ := stepsK_lim hC l (i + 1) _ s' hrest
    have h1 : ∃ n, ∀ m, n ≤ m → stepE P (Dn m) nt (mv i) (pu i) (ta i) ops o s = some e := by
      rcases stepE_once he with hx | ⟨f, a, b, r, hr, hx⟩
      · exact ⟨0, fun m _ => hx _⟩
      · obtain ⟨n, hn⟩ := hC.lim f a b r hr
        exact ⟨n, fun m hm => hx _ (hC.mono n m hm _ _ _ _ hn)⟩
    obtain ⟨n1, h1⟩ := h1
    refine ⟨max n1 n2, fun m hm => ?_⟩
    simp only [stepsK, stepK_eff]
    rw [h1 m (by omega), Option.bind_some]
    exact h2 m (by omega)
end
theorem codeK_bind {D : (Oracle m)} {H : Hints} {loop : ((St m) → Option (Out m)) → ((St m) → Option (St m)) → (St m) → Option (Out m)} : ∀ (c : Code) (blk : Nat) {β : Type} (k : (Out m) → Option β) (s : (St m)), codeK P D H loop blk c s k = (codeK P D H loop blk c s some).bind k := by
  intro c
  induction c with
  | skip => intro blk β k s; rfl
  | region id ops draw =>
    intro blk β k s
    simp only [codeK]
    cases hb : (!draw || okRegion (H.mv id) (H.pure id) (H.take id) ops) with
    | false => rfl
    | true =>
      simp only [guarded]
      rw [stepsK_bind, stepsK_bind (k := fun s' => some (Out.norm (St.freeze H.nt (s'.tidy (H.after id) (H.afterB id)) (H.fz id)))), Option.bind_assoc]
      rfl
  | seq c1 c2 ih1 ih2 =>
    intro blk β k s
    simp only [codeK]
    refine (ih1 blk _ s).trans (Eq.trans ?_ (congrArg (fun x => Option.bind x k) (ih1 blk _ s).symm))
    rw [Option.bind_assoc]
    congr 1
    funext o
    cases o with
    | norm s' => exact ih2 blk k s'
    | exit id s' => rfl
    | ret s' => rfl
  | cond x c1 c2 ih1 ih2 =>
    intro blk β k s
    simp only [codeK]
    unfold onBool
    split
    · rename_i b _
      cases b
      · exact ih2 blk k _
      · exact ih1 blk k _
    · rfl
  | block id c ih =>
    intro blk β k s
    simp only [codeK]
    refine (ih id _ s).trans (Eq.trans ?_ (congrArg (fun x => Option.bind x k) (ih id _ s).symm))
    rw [Option.bind_assoc]
    congr 1
    funext o
    cases o with
    | norm s' => rfl
    | exit id' s' => simp only [blockK, Option.bind_some]; split <;> rfl
    | ret s' => rfl
  | loop c ih =>
    intro blk β k s
    simp only [codeK, Option.bind_some]
    cases loop (fun s => codeK P D H loop blk c s some) (fun s => s.again (H.clear blk) (H.drop blk)) s <;> rfl
  | exit id => intro blk β k s; rfl
  | ret => intro blk β k s; rfl
  | _ => intro blk β k s; rfl
theorem rounds_mono {body body' : (St m) → Option (Out m)} {again : (St m) → Option (St m)} (hb : ∀ s o, body s = some o → body' s = some o) : ∀ (n m : Nat), n ≤ m → ∀ s o, rounds body again n s = some o → rounds body' again m s = some o
  | 0, _, _, s, o, h => by simp [rounds] at h
  | n + 1, 0, hm, _, _, _ => by omega
  | n + 1, m + 1, hm, s, o, h => by
    simp only [rounds] at h ⊢
    rw [Option.bind_eq_some_iff] at h
    obtain ⟨s2, ha, h⟩ := h
    rw [Option.bind_eq_some_iff] at h
    obtain ⟨o2, h2, h⟩ := h
    rw [ha, Option.bind_some, hb _ _ h2, Option.bind_some]
    cases o2 with
    | norm s' => exact rounds_mono hb n m (by omega) s' o h
    | exit id s' => exact h
    | ret s' => exact h
noncomputable def limR : ((St m) → Option (Out m)) → ((St m) → Option (St m)) → (St m) → Option (Out m) := fun body again s =>
  open Classical in if h : ∃ n o, rounds body again n s = some o then some (Classical.choose (Classical.choose_spec h)) else none
theorem limR_iff {body : (St m) → Option (Out m)} {again : (St m) → Option (St m)} {s : (St m)} {o : (Out m)} : limR body again s = some o ↔ ∃ n, rounds body again n s = some o := by
  unfold limR
  constructor
  · intro h
    split at h
    · rename_i hx
      simp only [Option.some.injEq] at h
      subst h
      exact ⟨_, Classical.choose_spec (Classical.choose_spec hx)⟩
    · simp at h
  · rintro ⟨n, hn⟩
    have hx : ∃ n o, rounds body again n s = some o := ⟨n, o, hn⟩
    rw [dif_pos hx]
    have h1 := Classical.choose_spec (Classical.choose_spec hx)
    have h2 := rounds_mono (body := body) (again := again) (fun _ _ h => h) _ (max n (Classical.choose hx)) (Nat.le_max_right _ _) s _ h1
    have h3 := rounds_mono (body := body) (again := again) (fun _ _ h => h) n (max n (Classical.choose hx)) (Nat.le_max_left _ _) s _ hn
    rw [h2] at h3
    exact h3
theorem limR_open (body : (St m) → Option (Out m)) (again : (St m) → Option (St m)) (s : (St m)) : limR body again s = (again s).bind fun s => (body s).bind fun | .norm s' => limR body again s' | o => some o := by
  apply Option.ext
  intro o
  rw [limR_iff]
  constructor
  · rintro ⟨n, hn⟩
    cases n with
    | zero => simp [rounds] at hn
    | succ n =>
      simp only [rounds] at hn
      rw [Option.bind_eq_some_iff] at hn ⊢
      obtain ⟨s2, ha, h⟩ := hn
      refine ⟨s2, ha, ?_⟩
      rw [Option.bind_eq_some_iff] at h ⊢
      obtain ⟨o2, h2, h⟩ := h
      refine ⟨o2, h2, ?_⟩
      cases o2 with
      | norm s' => exact limR_iff.2 ⟨n, h⟩
      | exit id s' => exact h
      | ret s' => exact h
  · intro h
    rw [Option.bind_eq_some_iff] at h
    obtain ⟨s2, ha, h⟩ := h
    rw [Option.bind_eq_some_iff] at h
    obtain ⟨o2, h2, h⟩ := h
    cases o2 with
    | norm s' =>
      obtain ⟨n, hn⟩ := limR_iff.1 h
      exact ⟨n + 1, by simp only [rounds]; rw [ha, Option.bind_some, h2, Option.bind_some]; exact hn⟩
    | exit id s' => exact ⟨1, by simp only [rounds]; rw [ha, Option.bind_some, h2, Option.bind_some]; exact h⟩
    | ret s' => exact ⟨1, by simp only [rounds]; rw [ha, Option.bind_some, h2, Option.bind_some]; exact h⟩
theorem codeK_lim {Dn : Nat → (Oracle m)} {D : (Oracle m)} (hC : Chain Dn D) {H : Hints} : ∀ (c : Code) (blk : Nat) (s : (St m)) (o : (Out m)), codeK P D H limR blk c s some = some o → ∃ n, ∀ m, n ≤ m → codeK P (Dn m) H (loopN m) blk c s some = some o := by
  intro c
  induction c with
  | skip => intro blk s o h; exact ⟨0, fun _ _ => h⟩
  | region id ops draw =>
    intro blk s o h
    simp only [codeK] at h ⊢
    obtain ⟨hg, h⟩ := guarded_eq h
    rw [stepsK_bind, Option.bind_eq_some_iff] at h
    obtain ⟨s', hs, ho⟩ := h
    obtain ⟨n, hn⟩ := stepsK_lim hC _ _ _ _ hs
    refine ⟨n, fun m hm => ?_⟩
    rw [hg]
    simp only [guarded]
    rw [stepsK_bind, hn m hm, Option.bind_some]
    exact ho
  | seq c1 c2 ih1 ih2 =>
    intro blk s o h
    simp only [codeK] at h ⊢
    rw [codeK_bind, Option.bind_eq_some_iff] at h
    obtain ⟨o1, h1, h2⟩ := h
    obtain ⟨n1, hn1⟩ := ih1 blk s o1 h1
    cases o1 with
    | norm s' =>
      obtain ⟨n2, hn2⟩ := ih2 blk s' o h2
      refine ⟨max n1 n2, fun m hm => ?_⟩
      rw [codeK_bind, hn1 m (by omega), Option.bind_some]
      exact hn2 m (by omega)
    | exit id s' => exact ⟨n1, fun m hm => by rw [codeK_bind, hn1 m hm, Option.bind_some]; exact h2⟩
    | ret s' => exact ⟨n1, fun m hm => by rw [codeK_bind, hn1 m hm, Option.bind_some]; exact h2⟩
  | cond x c1 c2 ih1 ih2 =>
    intro blk s o h
    simp only [codeK] at h ⊢
    obtain ⟨b, hb, h⟩ := onBool_eq h
    rw [hb]
    simp only [onBool]
    cases b
    · exact ih2 blk _ o h
    · exact ih1 blk _ o h
  | block id c ih =>
    intro blk s o h
    simp only [codeK] at h ⊢
    rw [codeK_bind, Option.bind_eq_some_iff] at h
    obtain ⟨o1, h1, h2⟩ := h
    obtain ⟨n1, hn1⟩ := ih id s o1 h1
    exact ⟨n1, fun m hm => by rw [codeK_bind, hn1 m hm, Option.bind_some]; exact h2⟩
  | loop c ih =>
    intro blk s o h
    simp only [codeK, Option.bind_some] at h ⊢
    rw [Option.bind_eq_some_iff] at h
    obtain ⟨o1, h1, h2⟩ := h
    simp only [Option.some.injEq] at h2
    subst h2
    obtain ⟨n, hn⟩ := limR_iff.1 h1
    have key : ∀ (n : Nat) (s : (St m)), rounds (fun s => codeK P D H limR blk c s some) (fun s => s.again (H.clear blk) (H.drop blk)) n s = some o1 → ∃ n1, ∀ m, n1 ≤ m → rounds (fun s => codeK P (Dn m) H (loopN m) blk c s some) (fun s => s.again (H.clear blk) (H.drop blk)) n s = some o1 := by
      intro n
      induction n with
      | zero => intro s h; simp [rounds] at h
      | succ n ihn =>
        intro s h
        simp only [rounds] at h ⊢
        rw [Option.bind_eq_some_iff] at h
        obtain ⟨s2, ha, h⟩ := h
        rw [Option.bind_eq_some_iff] at h
        obtain ⟨o2, h2, h⟩ := h
        obtain ⟨n1, hn1⟩ := ih blk s2 o2 h2
        cases o2 with
        | norm s' =>
          obtain ⟨n2, hn2⟩ := ihn s' h
          exact ⟨max n1 n2, fun m hm => by rw [ha, Option.bind_some, hn1 m (by omega), Option.bind_some]; exact hn2 m (by omega)⟩
        | exit id s' => exact ⟨n1, fun m hm => by rw [ha, Option.bind_some, hn1 m hm, Option.bind_some]; exact h⟩
        | ret s' => exact ⟨n1, fun m hm => by rw [ha, Option.bind_some, hn1 m hm, Option.bind_some]; exact h⟩
    obtain ⟨n1, hn1⟩ := key n s hn
    refine ⟨max n n1, fun m hm => ?_⟩
    have h3 := hn1 m (by omega)
    have h4 := rounds_mono (fun _ _ h => h) n m (by omega) s o1 h3
    show ((loopN m) _ _ s).bind some = some o1
    simp only [loopN]
    rw [h4]
    rfl
  | exit id => intro blk s o h; exact ⟨0, fun _ _ => h⟩
  | ret => intro blk s o h; exact ⟨0, fun _ _ => h⟩
  | _ => intro blk s o h; simp [codeK] at h
theorem stepsK_mono {nt : Nat} {mv pu ta : Nat → Bool} {ops : Array Oper} {D D' : (Oracle m)} (hD : DLe D D') (l : List Oper) (i : Nat) (s s' : (St m)) (h : stepsK P D nt mv pu ta ops l i s some = some s') : stepsK P D' nt mv pu ta ops l i s some = some s' := by
  obtain ⟨n, hn⟩ := stepsK_lim (Dn := fun _ => D') (D := D) ⟨fun _ _ _ _ _ _ _ h => h, fun f a b r h => ⟨0, hD f a b r h⟩⟩ l i s s' h
  exact hn n (Nat.le_refl _)
theorem codeK_mono {D D' : (Oracle m)} (hD : DLe D D') {H : Hints} {n n' : Nat} (hn : n ≤ n') : ∀ (c : Code) (blk : Nat) (s : (St m)) (o : (Out m)), codeK P D H (loopN n) blk c s some = some o → codeK P D' H (loopN n') blk c s some = some o := by
  intro c
  induction c with
  | skip => intro blk s o h; exact h
  | region id ops draw =>
    intro blk s o h
    simp only [codeK] at h ⊢
    obtain ⟨hg, h⟩ := guarded_eq h
    rw [stepsK_bind, Option.bind_eq_some_iff] at h
    obtain ⟨s', hs, ho⟩ := h
    rw [hg]
    simp only [guarded]
    rw [stepsK_bind, stepsK_mono hD _ _ _ _ hs, Option.bind_some]
    exact ho
  | seq c1 c2 ih1 ih2 =>
    intro blk s o h
    simp only [codeK] at h ⊢
    rw [codeK_bind, Option.bind_eq_some_iff] at h
    obtain ⟨o1, h1, h2⟩ := h
    rw [codeK_bind, ih1 blk s o1 h1, Option.bind_some]
    cases o1 with
    | norm s' => exact ih2 blk s' o h2
    | exit id s' => exact h2
    | ret s' => exact h2
  | cond x c1 c2 ih1 ih2 =>
    intro blk s o h
    simp only [codeK] at h ⊢
    obtain ⟨b, hb, h⟩ := onBool_eq h
    rw [hb]
    simp only [onBool]
    cases b
    · exact ih2 blk _ o h
    · exact ih1 blk _ o h
  | block id c ih =>
    intro blk s o h
    simp only [codeK] at h ⊢
    rw [codeK_bind, Option.bind_eq_some_iff] at h
    obtain ⟨o1, h1, h2⟩ := h
    rw [codeK_bind, ih id s o1 h1, Option.bind_some]
    exact h2
  | loop c ih =>
    intro blk s o h
    simp only [codeK] at h ⊢
    rw [Option.bind_eq_some_iff] at h
    obtain ⟨o1, h1, h2⟩ := h
    simp only [loopN] at h1 ⊢
    rw [rounds_mono (fun s o h => ih blk s o h) n n' hn s o1 h1, Option.bind_some]
    exact h2
  | exit id => intro blk s o h; exact h
  | ret => intro blk s o h; exact h
  | _ => intro blk s o h; simp [codeK] at h
theorem callN_mono {T : (Told m)} {H : FuncId → Hints} : ∀ (n m : Nat), n ≤ m → DLe (callN P T H n) (callN P T H m)
  | 0, _, _ => by intro f a b r h; simp [callN] at h
  | n + 1, 0, h => by omega
  | n + 1, m + 1, hm => by
    intro f a b r h
    simp only [callN] at h ⊢
    cases ht : T f with
    | some t => rw [ht] at h; exact h
    | none =>
      rw [ht] at h
      simp only at h ⊢
      unfold runV at h ⊢
      cases hfn : P.funcs[f]? with
      | none => rw [hfn] at h; simp at h
      | some fn =>
        rw [hfn] at h
        simp only at h ⊢
        cases hc : fn.body with
        | none => rw [hc] at h; simp at h
        | some c =>
          rw [hc] at h
          simp only at h ⊢
          rw [codeK_bind, Option.bind_eq_some_iff] at h ⊢
          obtain ⟨o, ho, hk⟩ := h
          exact ⟨o, codeK_mono (callN_mono n m (by omega)) (by omega) c 0 _ o ho, hk⟩
noncomputable def den (P : Program) (T : (Told m)) (H : FuncId → Hints) : (Oracle m) := fun f a b =>
  open Classical in if h : ∃ n r, callN P T H n f a b = some r then some (Classical.choose (Classical.choose_spec h)) else none
theorem den_iff {T : (Told m)} {H : FuncId → Hints} {f : FuncId} {a : List (SV m)} {b : List (List (SV m))} {r : (SV m) × List (List (SV m))} : den P T H f a b = some r ↔ ∃ n, callN P T H n f a b = some r := by
  unfold den
  constructor
  · intro h
    split at h
    · rename_i hx
      simp only [Option.some.injEq] at h
      subst h
      exact ⟨_, Classical.choose_spec (Classical.choose_spec hx)⟩
    · simp at h
  · rintro ⟨n, hn⟩
    have hx : ∃ n r, callN P T H n f a b = some r := ⟨n, r, hn⟩
    rw [dif_pos hx]
    have h1 := Classical.choose_spec (Classical.choose_spec hx)
    have h2 := callN_mono _ (max n (Classical.choose hx)) (Nat.le_max_right _ _) _ _ _ _ h1
    have h3 := callN_mono n (max n (Classical.choose hx)) (Nat.le_max_left _ _) _ _ _ _ hn
    rw [h2] at h3
    exact h3
theorem den_sound {N : Env} (hP : P.follows .mixedOrders = true) (hG : P.funcs.all (fun fn => !(fn.name == "runtime.NumGoroutine")) = true) {T : (Told m)} (hT : TSound P N T) (H : FuncId → Hints) : DSound P N (den P T H) := by
  intro f a b r h
  obtain ⟨n, hn⟩ := den_iff.1 h
  exact call_sound hP hG hT H n f a b r hn
theorem den_run {T : (Told m)} {H : FuncId → Hints} {f : FuncId} {a : List (SV m)} {b : List (List (SV m))} {r : (SV m) × List (List (SV m))} (hT : T f = none) (h : runV P (den P T H) H limR f a b = some r) : den P T H f a b = some r := by
  refine den_iff.2 ?_
  unfold runV at h
  split at h
  · rename_i fn hfn
    split at h
    · rename_i c hc
      rw [codeK_bind, Option.bind_eq_some_iff] at h
      obtain ⟨o, ho, hk⟩ := h
      obtain ⟨n, hn⟩ := codeK_lim (Dn := callN P T H) ⟨fun n m h => callN_mono n m h, fun f a b r h => den_iff.1 h⟩ c 0 _ o ho
      refine ⟨n + 1, ?_⟩
      simp only [callN, hT]
      unfold runV
      rw [hfn]
      simp only
      rw [hc]
      simp only
      rw [codeK_bind, hn n (Nat.le_refl _)]
      exact hk
    · simp at h
  · simp at h
theorem den_told {T : (Told m)} {H : FuncId → Hints} {f : FuncId} {t : List (SV m) → List (List (SV m)) → Option ((SV m) × List (List (SV m)))} {a : List (SV m)} {b : List (List (SV m))} {r : (SV m) × List (List (SV m))} (hT : T f = some t) (h : t a b = some r) : den P T H f a b = some r :=
  den_iff.2 ⟨1, by simp only [callN, hT]; exact h⟩
end Go.Vs
end
section
set_option linter.unusedVariables false
set_option linter.unusedSimpArgs false
namespace Go.Vs
variable {m : Bool}
section
variable {β : Type}
def intK (k0 : IntKind) (l : (Leaf m)) (k : Int → Option β) : Option β := match l with | .int k1 n => if k1 = k0 then k n else none | _ => none
def boolK (l : (Leaf m)) (k : Bool → Option β) : Option β := match l with | .bool b => k b | _ => none
def strK (l : (Leaf m)) (k : ByteArray → Option β) : Option β := match l with | .str s => k s | _ => none
def slK (l : (Leaf m)) (k : Fl m → List (List (Leaf m)) → Option β) : Option β := match l with | .sl c es => k c es | _ => none
def leafK (P : Program) (t : TypeId) (l : (Leaf m)) (k : (Leaf m) → Option β) : Option β :=
  match P.underlying t with
  | some (.int k0) => intK k0 l fun n => k (.int k0 n)
  | some .bool => boolK l fun b => k (.bool b)
  | some .string => strK l fun s => k (.str s)
  | some (.slice _) => slK l fun c es => k (.sl c es)
  | _ => none
def atK (e : List (Leaf m)) (p : Nat) (k : (Leaf m) → Option β) : Option β := match e[p]? with | some l => k l | none => none
def cellsAtK (P : Program) : List TypeId → List (Leaf m) → Nat → (List (Leaf m) → Option β) → Option β
  | [], _, _, k => k []
  | t :: ts, e, p, k => atK e p fun l => leafK P t l fun l' => cellsAtK P ts e (p + 1) fun ls => k (l' :: ls)
def flatTs (P : Program) : Nat → TypeId → Option (List TypeId)
  | 0, _ => none
  | n + 1, t => match P.underlying t with
    | some (.struct fs) => fs.toList.foldr (fun f r => (flatTs P n f.type).bind fun a => r.map (a ++ ·)) (some [])
    | some (.array _ _) | none => none
    | some _ => some [t]
def bindE (e : List (Leaf m)) (k : List (Leaf m) → Option β) : Option β := k e
def partK (P : Program) (t : TypeId) (e : List (Leaf m)) (p : Nat) (k : (SV m) → Option β) : Option β :=
  match isAggT P t with
  | true => (flatTs P 8 t).bind fun ts => (sizeT P t).bind fun n => if ts.length = n ∧ 0 < n then bindE e fun e => cellsAtK P ts e p fun ls => k (.agg ls) else none
  | false => atK e p fun l => leafK P t l fun l' => k (.leaf l')
def svLeafK (v : (SV m)) (k : (Leaf m) → Option β) : Option β := match v with | .leaf l => k l | _ => none
def svSlK (v : (SV m)) (k : Fl m → List (List (Leaf m)) → Option β) : Option β := match v with | .leaf (.sl c es) => k c es | _ => none
def svOwnK (e : TypeId) (v : (SV m)) (k : List (List (Leaf m)) → Option β) : Option β := match v with | .own (some e') es => if e' = e then k es else none | _ => none
def svRawK (e : TypeId) (v : (SV m)) (k : List (List (Leaf m)) → Option β) : Option β := match v with | .raw (some e') es => if e' = e then k es else none | _ => none
def svBslK (i z : Nat) (v : (SV m)) (k : Nat → Nat → Option β) : Option β := match v with | .bsl b z' lo n => if b = i ∧ z' = z then k lo n else none | _ => none
def rowK (P : Program) (t : TypeId) (cs : List (SV m)) (p n : Nat) (k : (SV m) → Option β) : Option β :=
  (asLeaves ((cs.drop p).take n)).bind fun e => partK P t e 0 k
def svAggK (v : (SV m)) (k : List (Leaf m) → Option β) : Option β := match v with | .agg cs => k cs | _ => none
def svNilK (v : (SV m)) (k : Option β) : Option β := match v with | .nilface => k | _ => none
def svTupK (v : (SV m)) (k : List (SV m) → Option β) : Option β := match v with | .tup vs => k vs | _ => none
def cast1K (P : Program) (own : Bool) (t : TypeId) (v : (SV m)) (k : (SV m) → Option β) : Option β :=
  match P.underlying t with
  | some (.slice e) => (match own with
    | true => svOwnK e v fun es => k (.own (some e) es)
    | false => svSlK v fun c es => k (.leaf (.sl c es)))
  | some (.struct _) => svAggK v fun cs => (flatTs P 8 t).bind fun ts => guarded (cs.length == ts.length) (cellsAtK P ts cs 0 fun ls => k (.agg ls))
  | some (.interface _) => svNilK v (k .nilface)
  | some _ => svLeafK v fun l => leafK P t l fun l' => k (.leaf l')
  | none => none
def headK (l : List (SV m)) (k : (SV m) → List (SV m) → Option β) : Option β := match l with | v :: r => k v r | [] => none
def lastK (l : List (SV m)) (k : Option β) : Option β := match l with | [] => k | _ => none
def castsK (P : Program) : List TypeId → List (SV m) → (List (SV m) → Option β) → Option β
  | [], l, k => lastK l (k [])
  | t :: ts, l, k => headK l fun v r => cast1K P false t v fun v' => castsK P ts r fun vs => k (v' :: vs)
def castK (P : Program) (own : Bool) (t : TypeId) (v : (SV m)) (k : (SV m) → Option β) : Option β :=
  match P.underlying t with
  | some (.tuple ts) => svTupK v fun vs => castsK P ts.toList vs fun vs' => k (.tup vs')
  | _ => cast1K P own t v k
def likeK (c d : (SV m)) (k : (SV m) → Option β) : Option β :=
  match c with
  | .leaf (.int k0 _) => svLeafK d fun l => intK k0 l fun n => k (.leaf (.int k0 n))
  | .leaf (.bool _) => svLeafK d fun l => boolK l fun b => k (.leaf (.bool b))
  | .leaf (.str _) => svLeafK d fun l => strK l fun s => k (.leaf (.str s))
  | .leaf (.sl _ _) => svSlK d fun c es => k (.leaf (.sl c es))
  | .own (some e) _ => svOwnK e d fun es => k (.own (some e) es)
  | _ => none
def likesK : List (SV m) → List (SV m) → (List (SV m) → Option β) → Option β
  | [], l, k => lastK l (k [])
  | c :: cs, l, k => headK l fun d r => likeK c d fun d' => likesK cs r fun ds => k (d' :: ds)
def atSV (cs : List (SV m)) (p : Nat) (k : (SV m) → Option β) : Option β := match cs[p]? with | some c => k c | none => none
def isPlainT (P : Program) (t : TypeId) : Bool := match P.underlying t with | some (.int _) | some .bool | some .string | some (.slice _) => true | _ => false
def dropK (P : Program) (t : TypeId) (c : (SV m)) (k : (SV m) → Option β) : Option β := match isPlainT P t with | true => cast1K P false t c.drop k | false => k c.drop
def headB (l : List (List (SV m))) (k : List (SV m) → List (List (SV m)) → Option β) : Option β := match l with | v :: r => k v r | [] => none
def lastB (l : List (List (SV m))) (k : Option β) : Option β := match l with | [] => k | _ => none
def boxK (row : Bool) (c d : List (SV m)) (k : List (SV m) → Option β) : Option β := match row with | true => k d | false => likesK c d k
def boxesK : List Bool → List (List (SV m)) → List (List (SV m)) → (List (List (SV m)) → Option β) → Option β
  | [], _, l, k => lastB l (k [])
  | w :: ws, [], l, k => lastB l (k [])
  | w :: ws, c :: cs, l, k => headB l fun d r => boxK w c d fun d' => boxesK ws cs r fun ds => k (d' :: ds)
end
section
variable {β : Type} {P : Program}
theorem intK_eq {k0 : IntKind} {l : (Leaf m)} {k : Int → Option β} {y : β} (h : intK k0 l k = some y) : ∃ n, l = .int k0 n ∧ k n = some y := by
  unfold intK at h
  split at h
  · split at h
    · rename_i hk; subst hk; exact ⟨_, rfl, h⟩
    · simp at h
  · simp at h
theorem boolK_eq {l : (Leaf m)} {k : Bool → Option β} {y : β} (h : boolK l k = some y) : ∃ n, l = .bool n ∧ k n = some y := by
  unfold boolK at h; split at h
  · exact ⟨_, rfl, h⟩
  · simp at h
theorem strK_eq {l : (Leaf m)} {k : ByteArray → Option β} {y : β} (h : strK l k = some y) : ∃ n, l = .str n ∧ k n = some y := by
  unfold strK at h; split at h
  · exact ⟨_, rfl, h⟩
  · simp at h
theorem slK_eq {l : (Leaf m)} {k : Fl m → List (List (Leaf m)) → Option β} {y : β} (h : slK l k = some y) : ∃ c es, l = .sl c es ∧ k c es = some y := by
  unfold slK at h; split at h
  · exact ⟨_, _, rfl, h⟩
  · simp at h
theorem leafK_eq {t : TypeId} {l : (Leaf m)} {k : (Leaf m) → Option β} {y : β} (h : leafK P t l k = some y) : k l = some y := by
  unfold leafK at h
  split at h
  · obtain ⟨n, rfl, h'⟩ := intK_eq h; exact h'
  · obtain ⟨n, rfl, h'⟩ := boolK_eq h; exact h'
  · obtain ⟨n, rfl, h'⟩ := strK_eq h; exact h'
  · obtain ⟨c, es, rfl, h'⟩ := slK_eq h; exact h'
  · simp at h
theorem atK_eq {e : List (Leaf m)} {p : Nat} {k : (Leaf m) → Option β} {y : β} (h : atK e p k = some y) : ∃ l, e[p]? = some l ∧ k l = some y := by
  unfold atK at h; split at h
  · exact ⟨_, by assumption, h⟩
  · simp at h
theorem cellsAtK_eq : ∀ (ts : List TypeId) (e : List (Leaf m)) (p : Nat) (k : List (Leaf m) → Option β) (y : β), cellsAtK P ts e p k = some y → (e.drop p).take ts.length = (e.drop p).take ts.length ∧ (ts.length = 0 ∨ p + ts.length ≤ e.length) ∧ k ((e.drop p).take ts.length) = some y
  | [], e, p, k, y, h => ⟨rfl, .inl rfl, by simpa [cellsAtK] using h⟩
  | t :: ts, e, p, k, y, h => by
    simp only [cellsAtK] at h
    obtain ⟨l, hl, h⟩ := atK_eq h
    have h := leafK_eq h
    obtain ⟨_, h2, h3⟩ := cellsAtK_eq ts e (p + 1) _ y h
    have hlt := (List.getElem?_eq_some_iff.1 hl).1
    have hd : e.drop p = l :: e.drop (p + 1) := by
      rw [List.drop_eq_getElem_cons hlt]
      congr 1
      exact (List.getElem?_eq_some_iff.1 hl).2
    refine ⟨rfl, .inr ?_, ?_⟩
    · simp only [List.length_cons]
      rcases h2 with h2 | h2 <;> omega
    · rw [hd]
      simpa using h3
theorem partK_eq {t : TypeId} {e : List (Leaf m)} {p : Nat} {k : (SV m) → Option β} {y : β} (h : partK P t e p k = some y) : ∃ v, partL P t e p = some v ∧ k v = some y := by
  unfold partK at h
  unfold partL
  split at h
  · rename_i ha
    rw [if_pos ha]
    rw [Option.bind_eq_some_iff] at h
    obtain ⟨ts, hts, h⟩ := h
    rw [Option.bind_eq_some_iff] at h
    obtain ⟨n, hn, h⟩ := h
    split at h
    · rename_i hl
      obtain ⟨_, h2, h3⟩ := cellsAtK_eq ts e p _ y h
      rw [hn]
      rw [hl.1] at h2 h3
      have hle : p + n ≤ e.length := by rcases h2 with h2 | h2 <;> omega
      exact ⟨.agg ((e.drop p).take n), by simp [hle], h3⟩
    · simp at h
  · rename_i ha
    rw [if_neg (by simp [ha])]
    obtain ⟨l, hl, h⟩ := atK_eq h
    have h := leafK_eq h
    exact ⟨.leaf l, by rw [hl]; rfl, h⟩
theorem svLeafK_eq {v : (SV m)} {k : (Leaf m) → Option β} {y : β} (h : svLeafK v k = some y) : ∃ l, v = .leaf l ∧ k l = some y := by
  unfold svLeafK at h; split at h
  · exact ⟨_, rfl, h⟩
  · simp at h
theorem svSlK_eq {v : (SV m)} {k : Fl m → List (List (Leaf m)) → Option β} {y : β} (h : svSlK v k = some y) : ∃ c es, v = .leaf (.sl c es) ∧ k c es = some y := by
  unfold svSlK at h; split at h
  · exact ⟨_, _, rfl, h⟩
  · simp at h
theorem svOwnK_eq {e : TypeId} {v : (SV m)} {k : List (List (Leaf m)) → Option β} {y : β} (h : svOwnK e v k = some y) : ∃ es, v = .own (some e) es ∧ k es = some y := by
  unfold svOwnK at h; split at h
  · split at h
    · rename_i he; subst he; exact ⟨_, rfl, h⟩
    · simp at h
  · simp at h
theorem svAggK_eq {v : (SV m)} {k : List (Leaf m) → Option β} {y : β} (h : svAggK v k = some y) : ∃ cs, v = .agg cs ∧ k cs = some y := by
  unfold svAggK at h; split at h
  · exact ⟨_, rfl, h⟩
  · simp at h
theorem svNilK_eq {v : (SV m)} {k : Option β} {y : β} (h : svNilK v k = some y) : v = .nilface ∧ k = some y := by
  unfold svNilK at h; split at h
  · exact ⟨rfl, h⟩
  · simp at h
theorem svTupK_eq {v : (SV m)} {k : List (SV m) → Option β} {y : β} (h : svTupK v k = some y) : ∃ vs, v = .tup vs ∧ k vs = some y := by
  unfold svTupK at h; split at h
  · exact ⟨_, rfl, h⟩
  · simp at h
theorem headK_eq {l : List (SV m)} {k : (SV m) → List (SV m) → Option β} {y : β} (h : headK l k = some y) : ∃ v r, l = v :: r ∧ k v r = some y := by
  unfold headK at h; split at h
  · exact ⟨_, _, rfl, h⟩
  · simp at h
theorem lastK_eq {l : List (SV m)} {k : Option β} {y : β} (h : lastK l k = some y) : l = [] ∧ k = some y := by
  unfold lastK at h; split at h
  · exact ⟨rfl, h⟩
  · simp at h
theorem cast1K_eq {own : Bool} {t : TypeId} {v : (SV m)} {k : (SV m) → Option β} {y : β} (h : cast1K P own t v k = some y) : k v = some y := by
  unfold cast1K at h
  split at h
  · split at h
    · obtain ⟨es, rfl, h'⟩ := svOwnK_eq h; exact h'
    · obtain ⟨c, es, rfl, h'⟩ := svSlK_eq h; exact h'
  · obtain ⟨cs, rfl, h'⟩ := svAggK_eq h
    rw [Option.bind_eq_some_iff] at h'
    obtain ⟨ts, hts, h2⟩ := h'
    obtain ⟨hl, h3⟩ := guarded_eq h2
    obtain ⟨_, _, h4⟩ := cellsAtK_eq ts cs 0 _ y h3
    have hl' : cs.length = ts.length := by simpa using hl
    rw [← hl', List.drop_zero, List.take_length] at h4
    exact h4
  · obtain ⟨rfl, h'⟩ := svNilK_eq h; exact h'
  · obtain ⟨l, rfl, h'⟩ := svLeafK_eq h
    exact leafK_eq h'
  · simp at h
theorem castsK_eq : ∀ (ts : List TypeId) (l : List (SV m)) (k : List (SV m) → Option β) (y : β), castsK P ts l k = some y → k l = some y
  | [], l, k, y, h => by
    simp only [castsK] at h
    obtain ⟨rfl, h'⟩ := lastK_eq h
    exact h'
  | t :: ts, l, k, y, h => by
    simp only [castsK] at h
    obtain ⟨v, r, rfl, h'⟩ := headK_eq h
    exact castsK_eq ts r _ y (cast1K_eq h')
theorem castK_eq {own : Bool} {t : TypeId} {v : (SV m)} {k : (SV m) → Option β} {y : β} (h : castK P own t v k = some y) : k v = some y := by
  unfold castK at h
  split at h
  · obtain ⟨vs, rfl, h'⟩ := svTupK_eq h
    exact castsK_eq _ _ _ y h'
  · exact cast1K_eq h
theorem likeK_eq {c d : (SV m)} {k : (SV m) → Option β} {y : β} (h : likeK c d k = some y) : k d = some y := by
  unfold likeK at h
  split at h
  · obtain ⟨l, rfl, h1⟩ := svLeafK_eq h; obtain ⟨n, rfl, h2⟩ := intK_eq h1; exact h2
  · obtain ⟨l, rfl, h1⟩ := svLeafK_eq h; obtain ⟨n, rfl, h2⟩ := boolK_eq h1; exact h2
  · obtain ⟨l, rfl, h1⟩ := svLeafK_eq h; obtain ⟨n, rfl, h2⟩ := strK_eq h1; exact h2
  · obtain ⟨c, es, rfl, h1⟩ := svSlK_eq h; exact h1
  · obtain ⟨es, rfl, h1⟩ := svOwnK_eq h; exact h1
  · simp at h
theorem likesK_eq : ∀ (cs l : List (SV m)) (k : List (SV m) → Option β) (y : β), likesK cs l k = some y → k l = some y
  | [], l, k, y, h => by
    simp only [likesK] at h
    obtain ⟨rfl, h'⟩ := lastK_eq h
    exact h'
  | c :: cs, l, k, y, h => by
    simp only [likesK] at h
    obtain ⟨v, r, rfl, h'⟩ := headK_eq h
    exact likesK_eq cs r _ y (likeK_eq h')
theorem lastB_eq {l : List (List (SV m))} {k : List (List (SV m)) → Option β} {y : β} (h : lastB l (k []) = some y) : k l = some y := by
  unfold lastB at h
  split at h
  · exact h
  · simp at h
theorem boxK_eq {row : Bool} {c d : List (SV m)} {k : List (SV m) → Option β} {y : β} (h : boxK row c d k = some y) : k d = some y := by
  cases row
  · exact likesK_eq c d k y h
  · exact h
theorem boxesK_eq : ∀ (ws : List Bool) (cs l : List (List (SV m))) (k : List (List (SV m)) → Option β) (y : β), boxesK ws cs l k = some y → k l = some y
  | [], _, l, k, y, h => lastB_eq (by simpa only [boxesK] using h)
  | w :: ws, [], l, k, y, h => lastB_eq (by simpa only [boxesK] using h)
  | w :: ws, c :: cs, l, k, y, h => by
    simp only [boxesK] at h
    unfold headB at h
    split at h
    · rename_i v r
      have h2 := boxK_eq h
      exact boxesK_eq ws cs r (fun ds => k (v :: ds)) y h2
    · simp at h
theorem atSV_eq {cs : List (SV m)} {p : Nat} {k : (SV m) → Option β} {y : β} (h : atSV cs p k = some y) : ∃ c, cs[p]? = some c ∧ k c = some y := by
  unfold atSV at h; split at h
  · exact ⟨_, by assumption, h⟩
  · simp at h
theorem dropK_eq {t : TypeId} {c : (SV m)} {k : (SV m) → Option β} {y : β} (h : dropK P t c k = some y) : k c.drop = some y := by
  unfold dropK at h
  split at h
  · exact cast1K_eq h
  · exact h
end
def intG (op : BinOp) (k : IntKind) (a b : Int) : Option (Bool × (Leaf m)) :=
  match op with
  | .quo => some (!(b == 0), .int k (k.wrap (a.tdiv b)))
  | .rem => some (!(b == 0), .int k (a.tmod b))
  | .shl => some (decide (0 ≤ b), .int k (k.wrap (a * 2 ^ min b.toNat k.bits)))
  | .shr => some (decide (0 ≤ b), .int k (a.fdiv (2 ^ min b.toNat k.bits)))
  | op => (intOp op k a b).map fun l => (true, l)
def strG (op : BinOp) (x y : ByteArray) : Option (Bool × (Leaf m)) :=
  match op with
  | .add => some (decide (x.size + y.size ≤ 140737488355328), .str (x ++ y))
  | op => (strOp op x y).map fun l => (true, l)
def binG (P : Program) (op : BinOp) (t : TypeId) (x y : (SV m)) : Option (Bool × (SV m)) :=
  match x.drop, y.drop with
  | .leaf (.int k a), .leaf (.int k' b) =>
    if isShift op = true then (intG op k a b).map fun p => (p.1, .leaf p.2)
    else if k = k' then (intG op k a b).map fun p => (p.1, .leaf p.2) else none
  | .leaf (.str a), .leaf (.str b) => (strG op a b).map fun p => (p.1, .leaf p.2)
  | _, _ => (binV P op t x y).map fun v => (true, v)
theorem intG_V {op : BinOp} {k : IntKind} {a b : Int} {p : Bool × (Leaf m)} (h : intG op k a b = some p) (hp : p.1 = true) : intOp op k a b = some p.2 := by
  cases op <;> simp only [intG] at h <;> try (rw [Option.map_eq_some_iff] at h; obtain ⟨l, hl, rfl⟩ := h; exact hl)
  all_goals (simp only [Option.some.injEq] at h; subst h; simp at hp)
  · simp [intOp, hp]
  · simp [intOp, hp]
  · simp only [intOp]; rw [if_neg (by omega)]
  · simp only [intOp]; rw [if_neg (by omega)]
theorem strG_V {op : BinOp} {a b : ByteArray} {p : Bool × (Leaf m)} (h : strG op a b = some p) (hp : p.1 = true) : strOp op a b = some p.2 := by
  cases op <;> simp only [strG] at h <;> try (rw [Option.map_eq_some_iff] at h; obtain ⟨l, hl, rfl⟩ := h; exact hl)
  simp only [Option.some.injEq] at h; subst h; simp at hp
  simp [strOp, hp]
theorem binG_V {P : Program} {op : BinOp} {t : TypeId} {x y : (SV m)} {p : Bool × (SV m)} (h : binG P op t x y = some p) (hp : p.1 = true) : binV P op t x y = some p.2 := by
  unfold binG at h
  split at h
  · rename_i k a k' b ex ey
    unfold binV
    rw [ex, ey]
    simp only
    split at h
    · rename_i hs
      rw [if_pos hs]
      rw [Option.map_eq_some_iff] at h ⊢
      obtain ⟨q, hq, rfl⟩ := h
      exact ⟨q.2, intG_V hq hp, rfl⟩
    · rename_i hs
      rw [if_neg hs]
      split at h
      · rename_i hk
        rw [if_pos hk]
        rw [Option.map_eq_some_iff] at h ⊢
        obtain ⟨q, hq, rfl⟩ := h
        exact ⟨q.2, intG_V hq hp, rfl⟩
      · simp at h
  · rename_i a b ex ey
    unfold binV
    rw [ex, ey]
    simp only
    rw [Option.map_eq_some_iff] at h ⊢
    obtain ⟨q, hq, rfl⟩ := h
    exact ⟨q.2, strG_V hq hp, rfl⟩
  · rw [Option.map_eq_some_iff] at h
    obtain ⟨v, hv, rfl⟩ := h
    exact hv
def natG : (SV m) → Option (Bool × Nat)
  | .leaf (.int _ n) => some (decide (0 ≤ n), n.toNat)
  | _ => none
def optG (ρ : Operand → (SV m)) : Option Operand → Option (Bool × Option Nat)
  | none => some (true, none)
  | some x => (natG (ρ x)).map fun p => (p.1, some p.2)
theorem optG_V {ρ : Operand → (SV m)} {x : Option Operand} {p : Bool × Option Nat} (h : optG ρ x = some p) (hp : p.1 = true) : optNat ρ x = some p.2 := by
  cases x with
  | none => simp [optG] at h; subst h; rfl
  | some x =>
    simp only [optG, Option.map_eq_some_iff] at h
    obtain ⟨q, hq, rfl⟩ := h
    simp only [optNat]
    unfold natG at hq
    split at hq
    · rename_i k n hx
      simp only [Option.some.injEq] at hq
      subst hq
      have : 0 ≤ n := of_decide_eq_true hp
      simp [natOf, hx, this]
    · simp at hq
def sliceG (P : Program) (t : TypeId) (x : (SV m)) (lo hi : Option Nat) : Option (Bool × (SV m)) :=
  match P.underlying t, x.drop with
  | some (.slice _), .bsl b z k n =>
    (elemT P t).bind fun e => (sizeT P e).bind fun z' => if z' = z then some (decide (lo.getD 0 ≤ hi.getD n) && decide (hi.getD n ≤ n), .bsl b z (k + lo.getD 0) (hi.getD n - lo.getD 0)) else none
  | some .string, .leaf (.str b) => some (decide (lo.getD 0 ≤ hi.getD b.size) && decide (hi.getD b.size ≤ b.size), .leaf (.str (b.extract (lo.getD 0) (hi.getD b.size))))
  | some (.slice _), .leaf (.sl c es) =>
    (elemT P t).bind fun e => (sizeT P e).bind fun z =>
      some (decide (lo.getD 0 ≤ hi.getD es.length) && decide (hi.getD es.length ≤ es.length) && sized z es, .leaf (.sl (c.later lo) ((es.take (hi.getD es.length)).drop (lo.getD 0))))
  | _, _ => none
theorem sliceG_V {P : Program} {t : TypeId} {x : (SV m)} {lo hi : Option Nat} {p : Bool × (SV m)} (h : sliceG P t x lo hi = some p) (hp : p.1 = true) : sliceV P t x lo hi = some p.2 := by
  unfold sliceG at h
  split at h
  · rename_i e b z k n hu ex
    rw [Option.bind_eq_some_iff] at h
    obtain ⟨e', he, h⟩ := h
    rw [Option.bind_eq_some_iff] at h
    obtain ⟨z', hz, h⟩ := h
    split at h
    · rename_i hzz
      simp only [Option.some.injEq] at h; subst h
      simp only [Bool.and_eq_true, decide_eq_true_eq] at hp
      unfold sliceV
      rw [hu, ex]
      simp only [he, hz, Option.bind_some]
      rw [if_pos ⟨hp, hzz⟩]
    · simp at h
  · rename_i b hu ex
    simp only [Option.some.injEq] at h; subst h
    simp only [Bool.and_eq_true, decide_eq_true_eq] at hp
    unfold sliceV
    rw [hu, ex]
    simp only
    rw [if_pos hp]
  · rename_i e c es hu ex
    rw [Option.bind_eq_some_iff] at h
    obtain ⟨e', he, h⟩ := h
    rw [Option.bind_eq_some_iff] at h
    obtain ⟨z, hz, h⟩ := h
    simp only [Option.some.injEq] at h; subst h
    simp only [Bool.and_eq_true, decide_eq_true_eq] at hp
    unfold sliceV
    rw [hu, ex]
    simp only [he, hz, Option.bind_some]
    rw [if_pos hp.1, hp.2]
    rfl
  · simp at h
def indexAddrG (P : Program) (t : TypeId) (x i : (SV m)) : Option (Bool × (SV m)) :=
  match elemT P t, x.drop, i with
  | some e, .bsl b z lo k, .leaf (.int _ n) => (sizeT P e).bind fun z' => if z' = z ∧ 0 < z then some (decide (0 ≤ n) && decide (n < (k : Int)), .ptr b ((lo + n.toNat) * z)) else none
  | some e, .leaf (.sl c es), .leaf (.int _ n) => (sizeT P e).bind fun z =>
    some (decide (0 ≤ n) && decide (n < (es.length : Int)) && sized z es, .eptr c (es.getD n.toNat []) 0)
  | _, _, _ => none
theorem indexAddrG_V {P : Program} {t : TypeId} {x i : (SV m)} {p : Bool × (SV m)} (h : indexAddrG P t x i = some p) (hp : p.1 = true) : indexAddrV P t x i = some p.2 := by
  unfold indexAddrG at h
  split at h
  · rename_i e b z lo q kk n he ex
    rw [Option.bind_eq_some_iff] at h
    obtain ⟨z', hz, h⟩ := h
    split at h
    · rename_i hzz
      simp only [Option.some.injEq] at h; subst h
      simp only [Bool.and_eq_true, decide_eq_true_eq] at hp
      unfold indexAddrV
      rw [he, ex]
      simp only [hz, Option.bind_some]
      rw [if_pos hp.1, if_pos hp.2, if_pos hzz]
    · simp at h
  · rename_i e c es k n he ex
    rw [Option.bind_eq_some_iff] at h
    obtain ⟨z, hz, h⟩ := h
    simp only [Option.some.injEq] at h; subst h
    simp only [Bool.and_eq_true, decide_eq_true_eq] at hp
    unfold indexAddrV
    rw [he, ex]
    simp only [hz, Option.bind_some]
    rw [if_pos hp.1.1, if_pos hp.1.2, hp.2]
    rfl
  · simp at h
def makeG (P : Program) (t : TypeId) (l c : (SV m)) : Option (Bool × ((Nat × Nat) × List (SV m))) :=
  match l, c with
  | .leaf (.int _ a), .leaf (.int _ b) =>
    (elemT P t).bind fun e => (P.info? e).bind fun i => (zeroLeaves P e).bind fun ze => guarded (decide (0 < i.size) && ze.length == i.size) <|
      some (decide (0 ≤ a) && a == b && decide (a.toNat * i.bytes ≤ maxBytes) && decide (a.toNat ≤ maxBytes), ((i.size, a.toNat), ((List.replicate a.toNat ze).flatten.map .leaf)))
  | _, _ => none
theorem makeG_V {P : Program} {t : TypeId} {x y : (SV m)} {p : Bool × ((Nat × Nat) × List (SV m))} (h : makeG P t x y = some p) (hp : p.1 = true) : makeV P t x y = some p.2 := by
  unfold makeG at h
  split at h
  · rename_i k1 a k2 b
    rw [Option.bind_eq_some_iff] at h
    obtain ⟨e, he, h⟩ := h
    rw [Option.bind_eq_some_iff] at h
    obtain ⟨i, hi, h⟩ := h
    rw [Option.bind_eq_some_iff] at h
    obtain ⟨ze, hze, h⟩ := h
    obtain ⟨hg, h⟩ := guarded_eq h
    simp only [Option.some.injEq] at h; subst h
    simp only [Bool.and_eq_true, decide_eq_true_eq, beq_iff_eq] at hp hg
    unfold makeV
    simp only [he, hi, hze, Option.bind_some]
    rw [if_pos ⟨⟨hp.1.1.1, hp.1.1.2⟩, ⟨hg.1, hp.1.2, hp.2⟩, hg.2⟩]
  · simp at h
def indexG (P : Program) (t : TypeId) (x i : (SV m)) : Option (Bool × (SV m)) :=
  match P.underlying t, x, i with
  | some .string, .leaf (.str s), .leaf (.int _ n) => some (decide (0 ≤ n) && decide (n < (s.size : Int)), .leaf (.int .u8 (s.data.toList.getD n.toNat 0).toNat))
  | _, _, _ => none
theorem indexG_V {P : Program} {t : TypeId} {x i : (SV m)} {p : Bool × (SV m)} (h : indexG P t x i = some p) (hp : p.1 = true) : indexV P t x i = some p.2 := by
  unfold indexG at h
  split at h
  · rename_i s k n hu
    simp only [Option.some.injEq] at h; subst h
    simp only [Bool.and_eq_true, decide_eq_true_eq] at hp
    unfold indexV
    rw [hu]
    simp only
    rw [if_pos hp.1, if_pos hp.2]
  · simp at h
def appendG (P : Program) (argTypes : Array TypeId) (x y : (SV m)) : Option (Bool × (SV m)) :=
  match argTypes.toList, x with
  | [t, u], .own eo es =>
    (elemT P t).bind fun e => (P.info? e).bind fun i => guarded (eo.getD e == e && decide (0 < i.size) && decide (0 < i.bytes) && zeroSized P e) <|
      match P.underlying u, y.see with
      | some (.slice _), .leaf (.sl _ fs) => if t = u then some (decide ((es.length + fs.length) * i.bytes ≤ maxBytes) && sized i.size fs, .own (some e) (es ++ fs)) else none
      | some .string, .leaf (.str s) => guarded (zeroByte P e) (some (decide (es.length + s.size ≤ maxBytes), .own (some e) (es ++ s.data.toList.map fun b => [.int .u8 b.toNat])))
      | _, _ => none
  | [t, u], .raw eo es =>
    (elemT P t).bind fun e => (P.info? e).bind fun i => guarded (eo.getD e == e && decide (0 < i.size) && decide (0 < i.bytes) && zeroSized P e) <|
      match P.underlying u, y.see with
      | some (.slice _), .leaf (.sl _ fs) => if t = u then some (decide ((es.length + fs.length) * i.bytes ≤ maxBytes) && sized i.size fs, .raw (some e) (es ++ fs)) else none
      | some .string, .leaf (.str s) => guarded (zeroByte P e) (some (decide (es.length + s.size ≤ maxBytes), .raw (some e) (es ++ s.data.toList.map fun b => [.int .u8 b.toNat])))
      | _, _ => none
  | _, _ => none
theorem appendG_V {P : Program} {ts : Array TypeId} {x y : (SV m)} {p : Bool × (SV m)} (h : appendG P ts x y = some p) (hp : p.1 = true) : appendV P ts x y = some p.2 := by
  unfold appendG at h
  split at h
  · rename_i t u eo es hts
    rw [Option.bind_eq_some_iff] at h
    obtain ⟨e, he, h⟩ := h
    rw [Option.bind_eq_some_iff] at h
    obtain ⟨i, hi, h⟩ := h
    obtain ⟨hg, h⟩ := guarded_eq h
    unfold appendV
    rw [hts]
    simp only [he, hi, Option.bind_some, hg, guarded]
    split at h
    · rename_i e2 c fs hu hy
      rw [hu, hy]
      simp only
      split at h
      · rename_i htu
        simp only [Option.some.injEq] at h; subst h
        simp only [Bool.and_eq_true, decide_eq_true_eq] at hp
        rw [if_pos ⟨htu, hp.1⟩, hp.2]
      · simp at h
    · rename_i s hu hy
      rw [hu, hy]
      simp only
      obtain ⟨hz, h⟩ := guarded_eq h
      simp only [Option.some.injEq] at h; subst h
      have hp' := of_decide_eq_true hp
      rw [if_pos hp', hz]
    · simp at h
  · rename_i t u eo es hts
    rw [Option.bind_eq_some_iff] at h
    obtain ⟨e, he, h⟩ := h
    rw [Option.bind_eq_some_iff] at h
    obtain ⟨i, hi, h⟩ := h
    obtain ⟨hg, h⟩ := guarded_eq h
    unfold appendV
    rw [hts]
    simp only [he, hi, Option.bind_some, hg, guarded]
    split at h
    · rename_i e2 c fs hu hy
      rw [hu, hy]
      simp only
      split at h
      · rename_i htu
        simp only [Option.some.injEq] at h; subst h
        simp only [Bool.and_eq_true, decide_eq_true_eq] at hp
        rw [if_pos ⟨htu, hp.1⟩, hp.2]
      · simp at h
    · rename_i s hu hy
      rw [hu, hy]
      simp only
      obtain ⟨hz, h⟩ := guarded_eq h
      simp only [Option.some.injEq] at h; subst h
      have hp' := of_decide_eq_true hp
      rw [if_pos hp', hz]
    · simp at h
  · simp at h
def isByte : List (Leaf m) → Bool | [.int .u8 _] => true | _ => false
def byteOf : List (Leaf m) → UInt8 | [.int .u8 n] => UInt8.ofNat n.toNat | _ => 0
def convG (P : Program) (src dst : TypeId) (x : (SV m)) : Option (Bool × (SV m)) :=
  match P.underlying src, P.underlying dst, x.drop with
  | some (.slice e), some .string, .leaf (.sl _ es) =>
    match P.underlying e with
    | some (.int .u8) => some (es.all isByte, .leaf (.str ⟨(es.map byteOf).toArray⟩))
    | _ => none
  | _, _, _ => (convV P src dst x).map fun v => (true, v)
theorem bytes_all : ∀ (es : List (List (Leaf m))), es.all isByte = true → bytesOfLeaves es = some (es.map byteOf)
  | [], _ => rfl
  | e :: es, h => by
    simp only [List.all_cons, Bool.and_eq_true] at h
    have ih := bytes_all es h.2
    have h1 := h.1
    unfold isByte at h1
    split at h1
    · simp [bytesOfLeaves, ih, byteOf]
    · simp at h1
theorem convG_V {P : Program} {src dst : TypeId} {x : (SV m)} {p : Bool × (SV m)} (h : convG P src dst x = some p) (hp : p.1 = true) : convV P src dst x = some p.2 := by
  unfold convG at h
  split at h
  · rename_i e c es hs hd ex
    unfold convV
    rw [hs, hd, ex]
    simp only
    split at h
    · rename_i he
      simp only [Option.some.injEq] at h; subst h
      rw [he]
      simp [bytes_all es hp]
    · simp at h
  · rw [Option.map_eq_some_iff] at h
    obtain ⟨v, hv, rfl⟩ := h
    exact hv
end Go.Vs
end
section
namespace Go.Vs
variable {m : Bool}
section
variable {β : Type}
def resK (P : Program) (own : Bool) (rk : Nat) (dst : Option Tmp) (t : TypeId) (v : (SV m)) (k : (SV m) → Option β) : Option β := match rk with
  | 0 => (match dst with | none => k v | some _ => castK P own t v k)
  | 1 => (elemT P t).bind fun e => svRawK e v fun es => k (.raw (some e) es)
  | r + 2 => svBslK (r % 16) (r / 16) v fun lo n => k (.bsl (r % 16) (r / 16) lo n)
def rowIds (args : List (SV m)) : List Nat := args.flatMap fun | .bsl b _ _ _ => [b] | _ => []
def call2K (P : Program) (D : (Oracle m)) (s : (St m)) (own pureHint : Bool) (rk : Nat) (f : FuncId) (args : List (SV m)) (dst : Option Tmp) (t : TypeId) (k : (St m) → Option β) : Option β :=
  guarded (args.all SV.handed) <|
    match pureHint with
    | true => guarded (idsOf args).isEmpty ((D f args []).bind fun r => resK P own rk dst t r.1 fun v => k (s.put dst v))
    | false => (boxesAt s.boxes (idsOf args)).bind fun cs => guarded (cs.all (·.all SV.flat)) <|
        (D f (args.map (SV.ren (placeIn (idsOf args)))) cs).bind fun r => boxesK ((idsOf args).map (rowIds args).contains) cs r.2 fun bs => resK P own rk dst t r.1 fun v => k (({ s with boxes := putBoxes s.boxes (idsOf args) bs } : (St m)).put dst (v.ren ((idsOf args).getD · 0)))
def refine (s : (St m)) (x : Operand) (b : Bool) : (St m) := match x with | .tmp t => s.put (some t) (.leaf (.bool b)) | _ => s
def guard2 (s : (St m)) (t : Tmp) (want : Bool) (x y : (St m) → Option β) : Option β :=
  match s.tmps.getD t .any with
  | .leaf (.bool b) => branch (b == want) (x (refine s (.tmp t) want)) (y (refine s (.tmp t) !want))
  | .skip => y s
  | _ => none
def putAt (cs : List (SV m)) (p : Nat) (vs : List (SV m)) : List (SV m) := cs.take p ++ vs ++ cs.drop (p + vs.length)
def exec2K (P : Program) (D : (Oracle m)) (nt : Nat) (mv pu ta : Bool) (rk : Nat) (o : Oper) (s : (St m)) (k : (St m) → Option β) : Option β :=
  match o.op with
  | .pick c a b => onBool (s.eval c) fun t => branch t (k ((refine s c true).put o.dst ((refine s c true).eval a).drop)) (k ((refine s c false).put o.dst ((refine s c false).eval b).drop))
  | .load t x => (match s.eval x with
    | .eptr _ e p => partK P t e p fun v => k (s.put o.dst v)
    | .ptr b p => (match isAggT P t, mv, rk with
      | false, false, _ => (s.box b).bind fun cs => atSV cs p fun c => dropK P t c fun v => k (s.put o.dst v)
      | true, _, 1 => (s.box b).bind fun cs => (sizeT P t).bind fun n => guarded (decide (p + n ≤ cs.length)) (rowK P t cs p n fun v => k (s.put o.dst v))
      | _, _, _ => execK P D nt mv pu ta o s k)
    | _ => execK P D nt mv pu ta o s k)
  | .store t x y => (match s.eval x with
    | .ptr b p => (s.box b).bind fun cs => (sizeT P t).bind fun n => guarded ((s.eval y).data || isFn (s.eval y)) (guarded (n == (s.eval y).cells.length && decide (p + n ≤ cs.length)) (k (((s.take y).setBox b (some (putAt cs p (s.eval y).cells))).put o.dst .skip)))
    | _ => execK P D nt mv pu ta o s k)
  | .makeSlice t l c => (match o.dst with
    | some d => (match s.box d with
      | none => guarded (decide (d < nt)) ((makeG P t (s.eval l) (s.eval c)).bind fun p => guarded p.1 (k ((s.setBox d (some p.2.2)).put o.dst (.bsl d p.2.1.1 0 p.2.1.2))))
      | some _ => none)
    | none => none)
  | .binOp op t x y _ => (binG P op t (s.eval x) (s.eval y)).bind fun p => guarded p.1 (k (s.put o.dst p.2))
  | .convert src dst x => (convG P src dst (s.eval x)).bind fun p => guarded p.1 (k (s.put o.dst p.2))
  | .slice t x lo hi none => (optG s.eval lo).bind fun l => (optG s.eval hi).bind fun h => (sliceG P t (s.eval x) l.2 h.2).bind fun p => guarded (l.1 && h.1 && p.1) (k (s.put o.dst p.2))
  | .indexAddr t x i => (indexAddrG P t (s.eval x) (s.eval i)).bind fun p => guarded p.1 (k (s.put o.dst p.2))
  | .index t x i => (indexG P t (s.eval x) (s.eval i)).bind fun p => guarded p.1 (k (s.put o.dst p.2))
  | .call c => (match c.callee with
    | .builtin .append => (match c.args.toList with
      | [x, y] => (appendG P c.argTypes (s.eval x) (s.eval y)).bind fun p => guarded p.1 (k ((s.take x).put o.dst p.2))
      | _ => none)
    | .builtin .clear => (match c.args.toList with
      | [x] => (match s.eval x with
        | .bsl b z lo n => (s.box b).bind fun cs => (c.argTypes[0]?).bind fun t => (elemT P t).bind fun e => (zeroLeaves P e).bind fun ze => guarded (ze.length == z && decide (0 < z)) (guarded (decide ((lo + n) * z ≤ cs.length)) (k ((s.setBox b (some (putAt cs (lo * z) ((List.replicate n ze).flatten.map .leaf)))).put o.dst .any)))
        | _ => none)
      | _ => none)
    | .value g => (match s.eval g with
      | .fn f caps => guarded (decide (operandTmps c.args.toList).Nodup) (call2K P D (s.takes (takenL ta c.args.toList)) mv pu rk f (c.args.toList.map (argV ta s.eval) ++ caps) o.dst o.type k)
      | _ => none)
    | _ => execK P D nt mv pu ta o s k)
  | _ => execK P D nt mv pu ta o s k
def step2K (P : Program) (D : (Oracle m)) (nt : Nat) (mv pu ta : Bool) (rk : Nat) (ops : Array Oper) (o : Oper) (s : (St m)) (k : (St m) → Option β) : Option β :=
  match o.guard with
  | none => exec2K P D nt mv pu ta rk o s k
  | some (j, want) => match (ops[j]?).bind (·.dst) with
    | some t => guard2 s t want (fun s => exec2K P D nt mv pu ta rk o s k) (fun s => k (s.put o.dst .skip))
    | none => none
def steps2K (P : Program) (D : (Oracle m)) (nt : Nat) (mv pu ta : Nat → Bool) (rk : Nat → Nat) (ops : Array Oper) : List Oper → Nat → (St m) → ((St m) → Option β) → Option β
  | [], _, s, k => k s
  | o :: r, i, s, k => step2K P D nt (mv i) (pu i) (ta i) (rk i) ops o s fun s' => steps2K P D nt mv pu ta rk ops r (i + 1) s' k
def rkOf (H : Hints) (r i : Nat) : Nat := (((H.fz (1048577 + r)).find? fun x => x % 4096 == i).map (· / 4096)).getD 0
end
section
variable {β : Type}
def forceV (v : (SV m)) (k : (SV m) → Option β) : Option β :=
  match v with
  | .any => k .any
  | .skip => k .skip
  | .leaf l => k (.leaf l)
  | .own e es => k (.own e es)
  | .raw e es => k (.raw e es)
  | .agg cs => k (.agg cs)
  | .ptr b o => k (.ptr b o)
  | .eptr c e o => k (.eptr c e o)
  | .bsl b z lo n => k (.bsl b z lo n)
  | .kfn f cs => k (.kfn f cs)
  | .nilptr => k .nilptr
  | .nilface => k .nilface
  | .fn f caps => k (.fn f caps)
  | .tup vs => k (.tup vs)
theorem forceV_eq (v : (SV m)) (k : (SV m) → Option β) : forceV v k = k v := by cases v <;> rfl
def forceL : List (SV m) → (List (SV m) → Option β) → Option β
  | [], k => k []
  | v :: l, k => forceV v fun v' => forceL l fun l' => k (v' :: l')
theorem forceL_eq : ∀ (l : List (SV m)) (k : List (SV m) → Option β), forceL l k = k l
  | [], _ => rfl
  | v :: l, k => by simp only [forceL, forceV_eq, forceL_eq l]
def forceB : List (Option (List (SV m))) → (List (Option (List (SV m))) → Option β) → Option β
  | [], k => k []
  | none :: l, k => forceB l fun l' => k (none :: l')
  | some c :: l, k => forceB l fun l' => k (some c :: l')
theorem forceB_eq : ∀ (l : List (Option (List (SV m)))) (k : List (Option (List (SV m))) → Option β), forceB l k = k l
  | [], _ => rfl
  | none :: l, k => by simp only [forceB, forceB_eq l]
  | some c :: l, k => by simp only [forceB, forceB_eq l]
def forceSt (s : (St m)) (k : (St m) → Option β) : Option β := forceL s.tmps fun t => forceB s.boxes fun b => k ⟨t, b⟩
theorem forceSt_eq (s : (St m)) (k : (St m) → Option β) : forceSt s k = k s := by unfold forceSt; rw [forceL_eq, forceB_eq]
end
def code2K {β : Type} (P : Program) (D : (Oracle m)) (H : Hints) (loop : ((St m) → Option (Out m)) → ((St m) → Option (St m)) → (St m) → Option (Out m)) : Nat → Code → (St m) → ((Out m) → Option β) → Option β
  | _, .skip, s, k => k (.norm s)
  | _, .region id ops draw, s, k => guarded (!draw || okRegion (H.mv id) (H.pure id) (H.take id) ops) (steps2K P D H.nt (H.mv id) (H.pure id) (H.take id) (rkOf H id) ops ops.toList 0 s fun s' => forceSt (St.freeze H.nt (s'.tidy (H.after id) (H.afterB id)) (H.fz id)) fun s' => k (.norm s'))
  | blk, .seq a b, s, k => code2K P D H loop blk a s (seqK (fun s' => code2K P D H loop blk b s' k) k)
  | blk, .cond c a b, s, k => onBool (s.eval c) fun t => branch t (forceSt (s.dropC H.condA c) fun s => code2K P D H loop blk a s k) (forceSt (s.dropC H.condB c) fun s => code2K P D H loop blk b s k)
  | _, .block id a, s, k => code2K P D H loop id a s (blockK id k)
  | blk, .loop a, s, k => (loop (fun s => code2K P D H loop blk a s some) (fun s => s.again (H.clear blk) (H.drop blk)) s).bind k
  | _, .exit id, s, k => k (.exit id s)
  | _, .ret, s, k => k (.ret s)
  | _, _, _, _ => none
def leave2 (P : Program) (fn : Func) (n : Nat) (s : (St m)) : Option ((SV m) × List (List (SV m))) := match fn.results.toList with
  | [.tmp t] => (match s.tmps.getD t .any with
    | .bsl b z lo k => (match decide (b < fn.ntmps) with
      | true => guarded (lo == 0 && decide (0 < z)) ((s.box b).bind fun cs => guarded (decide (k * z ≤ cs.length)) ((asLeaves (cs.take (k * z))).bind fun l =>
        (boxesAt s.boxes ((List.range n).map (fn.ntmps + ·))).bind fun cs' => guarded (cs'.all (·.all SV.flat)) (some (.leaf (.sl (Fl.new m) (chunks z k l)), cs'))))
      | false => leaveV P fn n s)
    | _ => leaveV P fn n s)
  | _ => leaveV P fn n s
def endK2 (P : Program) (fn : Func) (n : Nat) : (Out m) → Option ((SV m) × List (List (SV m)))
  | .norm s => leave2 P fn n s
  | .ret s => leave2 P fn n s
  | .exit _ _ => none
theorem leave2_ref {P : Program} {fn : Func} {n : Nat} {s : St m} {r : (SV m) × List (List (SV m))} (h : leave2 P fn n s = some r) : leaveV P fn n s = some r := by
  unfold leave2 at h
  split at h
  · rename_i t hr
    split at h
    · rename_i b z lo k hv
      split at h
      · rename_i hb
        have hb := of_decide_eq_true hb
        obtain ⟨h1, h'⟩ := guarded_eq h
        replace h := h'
        clear h'
        simp only [Bool.and_eq_true, beq_iff_eq, decide_eq_true_eq] at h1
        obtain ⟨rfl, hz⟩ := h1
        rw [Option.bind_eq_some_iff] at h
        obtain ⟨cs, hcs, h⟩ := h
        obtain ⟨h2, h⟩ := guarded_eq h
        have h2 := of_decide_eq_true h2
        rw [Option.bind_eq_some_iff] at h
        obtain ⟨l, hl, h⟩ := h
        rw [Option.bind_eq_some_iff] at h
        obtain ⟨cs', hcs', h⟩ := h
        obtain ⟨h3, h⟩ := guarded_eq h
        have hbox : s.box b = some cs := hcs
        have hres : resultV P fn s = some (.leaf (.sl (Fl.new m) (chunks z k l))) := by
          unfold resultV
          rw [hr]
          simp only [resOne, hv, sealV]
          rw [if_pos ⟨hb, trivial⟩, hbox, Option.bind_some, if_pos ⟨h2, hz⟩, hl]
          rfl
        unfold leaveV
        rw [hres, Option.bind_some]
        rw [show SV.homeOk fn.ntmps n (SV.leaf (Leaf.sl (Fl.new m) (chunks z k l))) = true from rfl]
        simp only [guarded]
        rw [hcs', Option.bind_some, h3]
        exact h
      · exact h
    · exact h
  · exact h
theorem endK2_ref {P : Program} {fn : Func} {n : Nat} {o : Out m} {r : (SV m) × List (List (SV m))} (h : endK2 P fn n o = some r) : endK P fn n o = some r := by
  cases o with
  | norm s => exact leave2_ref h
  | ret s => exact leave2_ref h
  | exit _ _ => simp [endK2] at h
def run2V (P : Program) (D : (Oracle m)) (H : FuncId → Hints) (loop : ((St m) → Option (Out m)) → ((St m) → Option (St m)) → (St m) → Option (Out m)) : (Oracle m) := fun f args boxes =>
  match P.funcs[f]? with
  | some fn => match fn.body with
    | some c => code2K P D ((H f).fit fn.ntmps) loop 0 c (St.freeze fn.ntmps (enterV fn args boxes) ((H f).fz 1048576)) (endK2 P fn boxes.length)
    | none => none
  | none => none
section
variable {P : Program} {D : (Oracle m)} {β : Type}
theorem exec_mono {nt : Nat} {mv pu ta : Bool} {o : Oper} {s : (St m)} {k1 k2 : (St m) → Option β} {y : β} (hk : ∀ s, k2 s = some y → k1 s = some y) (h : execK P D nt mv pu ta o s k2 = some y) : execK P D nt mv pu ta o s k1 = some y := by
  rw [exec_eff, Option.bind_eq_some_iff] at h ⊢
  obtain ⟨e, he, h⟩ := h
  exact ⟨e, he, hk _ h⟩
theorem resK_eq {own : Bool} {rk : Nat} {dst : Option Tmp} {t : TypeId} {v : (SV m)} {k : (SV m) → Option β} {y : β} (h : resK P own rk dst t v k = some y) : k v = some y := by
  unfold resK at h
  split at h
  · split at h
    · exact h
    · exact castK_eq h
  · rw [Option.bind_eq_some_iff] at h
    obtain ⟨e, _, h⟩ := h
    unfold svRawK at h
    split at h
    · split at h
      · rename_i he; subst he; exact h
      · simp at h
    · simp at h
  · unfold svBslK at h
    split at h
    · split at h
      · rename_i hc; rw [hc.1, hc.2]; exact h
      · simp at h
    · simp at h
theorem call2_ref {s : (St m)} {own pu : Bool} {rk : Nat} {f : FuncId} {args : List (SV m)} {dst : Option Tmp} {t : TypeId} {k1 k2 : (St m) → Option β} {y : β} (hk : ∀ s, k2 s = some y → k1 s = some y) (h : call2K P D s own pu rk f args dst t k2 = some y) : callK D s pu f args dst k1 = some y := by
  unfold call2K at h
  obtain ⟨h1, h⟩ := guarded_eq h
  unfold callK
  rw [h1]
  simp only [guarded]
  split at h
  · obtain ⟨h2, h⟩ := guarded_eq h
    rw [if_pos rfl, if_pos (by simpa using h2)]
    rw [Option.bind_eq_some_iff] at h ⊢
    obtain ⟨r, hr, h⟩ := h
    exact ⟨r, hr, hk _ (resK_eq h)⟩
  · rw [if_neg (by simp)]
    rw [Option.bind_eq_some_iff] at h ⊢
    obtain ⟨cs, hcs, h⟩ := h
    obtain ⟨h2, h⟩ := guarded_eq h
    refine ⟨cs, hcs, ?_⟩
    rw [h2]
    simp only
    rw [Option.bind_eq_some_iff] at h ⊢
    obtain ⟨r, hr, h⟩ := h
    refine ⟨r, hr, hk _ ?_⟩
    have h3 := boxesK_eq _ cs r.2 _ y h
    exact resK_eq h3
theorem gk {x : Option (Bool × (SV m))} {x' : Option (SV m)} {k1 k2 : (SV m) → Option β} {y : β} (hx : ∀ p, x = some p → p.1 = true → x' = some p.2) (hk : ∀ v, k2 v = some y → k1 v = some y) (h : x.bind (fun p => guarded p.1 (k2 p.2)) = some y) : x'.bind k1 = some y := by
  rw [Option.bind_eq_some_iff] at h
  obtain ⟨p, hp, h⟩ := h
  obtain ⟨h1, h2⟩ := guarded_eq h
  rw [hx p hp h1, Option.bind_some]
  exact hk _ h2
theorem refine_eq {s : (St m)} {x : Operand} {b : Bool} (h : s.eval x = .leaf (.bool b)) : refine s x b = s := by
  cases x with
  | tmp t =>
    simp only [refine, St.put]
    have h' : s.tmps.getD t .any = .leaf (.bool b) := h
    have hl : s.tmps[t]? = some (.leaf (.bool b)) := by
      rw [List.getD_eq_getElem?_getD] at h'
      cases hx : s.tmps[t]? with
      | none => rw [hx] at h'; simp at h'
      | some v => rw [hx] at h'; simpa using h'
    have : s.tmps.set t (.leaf (.bool b)) = s.tmps := by
      apply List.ext_getElem?
      intro i
      by_cases hi : t = i
      · subst hi; rw [List.getElem?_set_self (List.getElem?_eq_some_iff.1 hl).1, hl]
      · rw [List.getElem?_set_ne hi]
    rw [this]
  | _ => rfl
theorem guard2_eq {s : (St m)} {t : Tmp} {want : Bool} {x y : (St m) → Option β} : guard2 s t want x y = onGuard (s.tmps.getD t .any) want (x s) (y s) := by
  unfold guard2 onGuard
  have hr : ∀ b, s.tmps.getD t .any = .leaf (.bool b) → refine s (.tmp t) b = s := fun b hb => refine_eq (x := .tmp t) hb
  generalize s.tmps.getD t .any = v at hr
  cases v with
  | leaf l =>
    cases l with
    | bool b =>
      simp only [branch_eq]
      by_cases hw : b = want
      · subst hw; simp [hr b rfl]
      · have : b = !want := by cases b <;> cases want <;> simp_all
        subst this
        simp [hr _ rfl]
    | _ => rfl
  | _ => rfl
theorem exec2_ref {nt : Nat} {mv pu ta : Bool} {rk : Nat} {o : Oper} {s : (St m)} {k1 k2 : (St m) → Option β} {y : β} (hk : ∀ s, k2 s = some y → k1 s = some y) (h : exec2K P D nt mv pu ta rk o s k2 = some y) : execK P D nt mv pu ta o s k1 = some y := by
  cases hop : o.op
  case load t x =>
    simp only [exec2K, hop] at h
    split at h
    · rename_i c e p hx
      obtain ⟨v, hv, h⟩ := partK_eq h
      simp only [execK, hop, hx, hv, Option.bind_some]
      exact hk _ h
    · rename_i b p hx
      split at h
      · rename_i ha
        rw [Option.bind_eq_some_iff] at h
        obtain ⟨cs, hcs, h⟩ := h
        obtain ⟨c, hc, h⟩ := atSV_eq h
        have h := dropK_eq h
        simp only [execK, hop, hx, hcs, Option.bind_some]
        rw [if_neg (by simp [ha]), hc]
        exact hk _ h
      · rename_i ha
        rw [Option.bind_eq_some_iff] at h
        obtain ⟨cs, hcs, h⟩ := h
        rw [Option.bind_eq_some_iff] at h
        obtain ⟨n, hn, h⟩ := h
        obtain ⟨hle, h⟩ := guarded_eq h
        have hle := of_decide_eq_true hle
        unfold rowK at h
        rw [Option.bind_eq_some_iff] at h
        obtain ⟨e, he, h⟩ := h
        obtain ⟨v, hv, h⟩ := partK_eq h
        have hel : e.length = n := by rw [asLeaves_len he, List.length_take, List.length_drop]; omega
        have hve : v = .agg e := by
          unfold partL at hv
          rw [if_pos ha, hn, Option.bind_some, if_pos (by omega), List.drop_zero, ← hel, List.take_length] at hv
          exact (Option.some.inj hv).symm
        subst hve
        simp only [execK, hop, hx, hcs, Option.bind_some]
        rw [if_pos ha, hn, Option.bind_some, if_pos hle, he]
        exact hk _ h
      · exact exec_mono hk h
    · exact exec_mono hk h
  case store t x y =>
    simp only [exec2K, hop] at h
    split at h
    · rename_i b p hx
      rw [Option.bind_eq_some_iff] at h
      obtain ⟨cs, hcs, h⟩ := h
      rw [Option.bind_eq_some_iff] at h
      obtain ⟨n, hn, h⟩ := h
      obtain ⟨h1, h⟩ := guarded_eq h
      obtain ⟨h2, h⟩ := guarded_eq h
      simp only [Bool.and_eq_true, beq_iff_eq, decide_eq_true_eq] at h2
      simp only [execK, hop, hx, hcs, hn, Option.bind_some, h1, guarded]
      rw [if_pos h2]
      have := hk _ h
      rw [putAt, ← h2.1] at this
      exact this
    · exact exec_mono hk h
  case makeSlice t l c =>
    simp only [exec2K, hop] at h
    simp only [execK, hop]
    split at h
    · rename_i d hd
      rw [hd]
      simp only
      split at h
      · rename_i hb
        rw [hb]
        simp only
        obtain ⟨h1, h⟩ := guarded_eq h
        rw [h1]
        simp only [guarded]
        rw [Option.bind_eq_some_iff] at h ⊢
        obtain ⟨p, hp, h⟩ := h
        obtain ⟨h2, h⟩ := guarded_eq h
        refine ⟨p.2, makeG_V hp h2, ?_⟩
        rw [hd] at h
        exact hk _ h
      · simp at h
    · simp at h
  case pick c x z =>
    simp only [exec2K, hop] at h
    simp only [execK, hop]
    obtain ⟨b, hb, h⟩ := onBool_eq h
    rw [hb]
    simp only [onBool]
    cases b
    · simp only [branch, refine_eq hb] at h ⊢; exact hk _ h
    · simp only [branch, refine_eq hb] at h ⊢; exact hk _ h
  case binOp op t x z u =>
    simp only [exec2K, hop] at h
    simp only [execK, hop]
    exact gk (fun p hp h1 => binG_V hp h1) (fun v => hk _) h
  case convert src dst x =>
    simp only [exec2K, hop] at h
    simp only [execK, hop]
    exact gk (fun p hp h1 => convG_V hp h1) (fun v => hk _) h
  case slice t x lo hi mx =>
    cases mx with
    | some m => simp only [exec2K, hop] at h; exact exec_mono hk h
    | none =>
      simp only [exec2K, hop] at h
      simp only [execK, hop]
      rw [Option.bind_eq_some_iff] at h
      obtain ⟨l, hl, h⟩ := h
      rw [Option.bind_eq_some_iff] at h
      obtain ⟨r, hr, h⟩ := h
      rw [Option.bind_eq_some_iff] at h
      obtain ⟨p, hp, h⟩ := h
      obtain ⟨h1, h2⟩ := guarded_eq h
      simp only [Bool.and_eq_true] at h1
      rw [optG_V hl h1.1.1, Option.bind_some, optG_V hr h1.1.2, Option.bind_some, sliceG_V hp h1.2, Option.bind_some]
      exact hk _ h2
  case indexAddr t x i =>
    simp only [exec2K, hop] at h
    simp only [execK, hop]
    exact gk (fun p hp h1 => indexAddrG_V hp h1) (fun v => hk _) h
  case index t x i =>
    simp only [exec2K, hop] at h
    simp only [execK, hop]
    exact gk (fun p hp h1 => indexG_V hp h1) (fun v => hk _) h
  case call c =>
    cases hc : c.callee with
    | invoke r m => simp only [exec2K, hop, hc] at h; exact exec_mono hk h
    | value g =>
      simp only [exec2K, hop, hc] at h
      simp only [execK, hop, hc]
      split at h
      · rename_i f caps hg
        obtain ⟨h1, h⟩ := guarded_eq h
        rw [hg]
        simp only [h1, guarded]
        exact call2_ref hk h
      · simp at h
    | builtin b =>
      cases b
      case append =>
        simp only [exec2K, hop, hc] at h
        simp only [execK, hop, hc]
        split at h
        · rename_i x z hargs
          rw [hargs]
          simp only
          exact gk (fun p hp h1 => appendG_V hp h1) (fun v => hk _) h
        · simp at h
      case clear =>
        simp only [exec2K, hop, hc] at h
        simp only [execK, hop, hc]
        split at h
        · rename_i x hargs
          rw [hargs]
          simp only
          split at h
          · rename_i b z lo n hx
            rw [hx]
            simp only
            rw [Option.bind_eq_some_iff] at h
            obtain ⟨cs, hcs, h⟩ := h
            rw [Option.bind_eq_some_iff] at h
            obtain ⟨t, ht, h⟩ := h
            rw [Option.bind_eq_some_iff] at h
            obtain ⟨e, he, h⟩ := h
            rw [Option.bind_eq_some_iff] at h
            obtain ⟨ze, hze, h⟩ := h
            obtain ⟨h1, h⟩ := guarded_eq h
            obtain ⟨h2, h⟩ := guarded_eq h
            simp only [Bool.and_eq_true, beq_iff_eq, decide_eq_true_eq] at h1 h2
            have hcl : clearV P c.argTypes cs z lo n = some (putAt cs (lo * z) ((List.replicate n ze).flatten.map .leaf)) := by
              have hl : ((List.replicate n ze).flatten.map (SV.leaf (m := m))).length = n * z := by simp [h1.1]
              have ha : (lo + n) * z = lo * z + n * z := Nat.add_mul _ _ _
              simp only [clearV, ht, he, hze, Option.bind_some]
              rw [if_pos ⟨h1, h2⟩, putAt, hl, ha]
            rw [hcs, Option.bind_some, hcl, Option.bind_some]
            exact hk _ h
          · simp at h
        · simp at h
      all_goals (simp only [exec2K, hop, hc] at h; exact exec_mono hk h)
  all_goals (simp only [exec2K, hop] at h; exact exec_mono hk h)
theorem step2_ref {nt : Nat} {mv pu ta : Bool} {rk : Nat} {ops : Array Oper} {o : Oper} {s : (St m)} {k1 k2 : (St m) → Option β} {y : β} (hk : ∀ s, k2 s = some y → k1 s = some y) (h : step2K P D nt mv pu ta rk ops o s k2 = some y) : stepK P D nt mv pu ta ops o s k1 = some y := by
  unfold step2K at h
  unfold stepK
  cases hg : o.guard with
  | none => rw [hg] at h; exact exec2_ref hk h
  | some g =>
    obtain ⟨j, want⟩ := g
    rw [hg] at h
    simp only at h ⊢
    cases hj : (ops[j]?).bind (·.dst) with
    | none => rw [hj] at h; simp at h
    | some t =>
      rw [hj] at h
      simp only at h ⊢
      rw [guard2_eq] at h
      unfold onGuard at h ⊢
      split at h
      · rename_i b hb
        rw [branch_eq] at h ⊢
        split at h
        · rename_i hbw
          rw [if_pos hbw]
          exact exec2_ref hk h
        · rename_i hbw
          rw [if_neg hbw]
          exact hk _ h
      · exact hk _ h
      · simp at h
theorem steps2_ref {nt : Nat} {mv pu ta : Nat → Bool} {rk : Nat → Nat} {ops : Array Oper} {y : β} : ∀ (l : List Oper) (i : Nat) (s : (St m)) (k1 k2 : (St m) → Option β), (∀ s, k2 s = some y → k1 s = some y) → steps2K P D nt mv pu ta rk ops l i s k2 = some y → stepsK P D nt mv pu ta ops l i s k1 = some y
  | [], i, s, k1, k2, hk, h => hk _ h
  | o :: l, i, s, k1, k2, hk, h => by
    simp only [steps2K] at h
    simp only [stepsK]
    exact step2_ref (fun s' h' => steps2_ref l (i + 1) s' k1 k2 hk h') h
def Up (loop : ((St m) → Option (Out m)) → ((St m) → Option (St m)) → (St m) → Option (Out m)) : Prop := ∀ body body' again s o, (∀ s o, body s = some o → body' s = some o) → loop body again s = some o → loop body' again s = some o
theorem up_limR : Up (m := m) limR := by
  intro body body' again s o hb h
  obtain ⟨n, hn⟩ := limR_iff.1 h
  exact limR_iff.2 ⟨n, rounds_mono hb n n (Nat.le_refl _) s o hn⟩
theorem seqK_mono {f1 f2 : (St m) → Option β} {k1 k2 : (Out m) → Option β} {y : β} (hf : ∀ s, f2 s = some y → f1 s = some y) (hk : ∀ o, k2 o = some y → k1 o = some y) : ∀ o, seqK f2 k2 o = some y → seqK f1 k1 o = some y := by
  intro o h
  cases o with
  | norm s => exact hf s h
  | exit id s => exact hk _ h
  | ret s => exact hk _ h
theorem blockK_mono {id : Nat} {k1 k2 : (Out m) → Option β} {y : β} (hk : ∀ o, k2 o = some y → k1 o = some y) : ∀ o, blockK id k2 o = some y → blockK id k1 o = some y := by
  intro o h
  cases o with
  | norm s => exact hk _ h
  | exit id' s =>
    simp only [blockK] at h ⊢
    split at h
    · rename_i he; rw [if_pos he]; exact hk _ h
    · rename_i he; rw [if_neg he]; exact hk _ h
  | ret s => exact hk _ h
theorem code2_ref {H : Hints} {loop : ((St m) → Option (Out m)) → ((St m) → Option (St m)) → (St m) → Option (Out m)} (hL : Up loop) : ∀ (c : Code) (blk : Nat) {β : Type} (s : (St m)) (k1 k2 : (Out m) → Option β) (y : β), (∀ o, k2 o = some y → k1 o = some y) → code2K P D H loop blk c s k2 = some y → codeK P D H loop blk c s k1 = some y := by
  intro c
  induction c with
  | skip => intro blk β s k1 k2 y hk h; exact hk _ h
  | region id ops draw =>
    intro blk β s k1 k2 y hk h
    simp only [code2K] at h
    obtain ⟨hg, h⟩ := guarded_eq h
    simp only [codeK, hg, guarded]
    exact steps2_ref _ _ _ _ _ (fun s' h' => by rw [forceSt_eq] at h'; exact hk _ h') h
  | seq a b iha ihb =>
    intro blk β s k1 k2 y hk h
    simp only [code2K] at h
    simp only [codeK]
    exact iha blk s _ _ y (seqK_mono (fun s' => ihb blk s' k1 k2 y hk) hk) h
  | cond x a b iha ihb =>
    intro blk β s k1 k2 y hk h
    simp only [code2K] at h
    simp only [codeK]
    obtain ⟨t, ht, h⟩ := onBool_eq h
    rw [ht]
    simp only [onBool]
    simp only [forceSt_eq] at h
    cases t
    · exact ihb blk _ k1 k2 y hk h
    · exact iha blk _ k1 k2 y hk h
  | block id a ih =>
    intro blk β s k1 k2 y hk h
    simp only [code2K] at h
    simp only [codeK]
    exact ih id s _ _ y (blockK_mono hk) h
  | loop a ih =>
    intro blk β s k1 k2 y hk h
    simp only [code2K] at h
    simp only [codeK]
    rw [Option.bind_eq_some_iff] at h ⊢
    obtain ⟨o, ho, h⟩ := h
    exact ⟨o, hL _ _ _ _ _ (fun s' o' h' => ih blk s' some some o' (fun _ h => h) h') ho, hk _ h⟩
  | exit id => intro blk β s k1 k2 y hk h; exact hk _ h
  | ret => intro blk β s k1 k2 y hk h; exact hk _ h
  | _ => intro blk β s k1 k2 y hk h; simp [code2K] at h
theorem run2_ref {H : FuncId → Hints} {loop : ((St m) → Option (Out m)) → ((St m) → Option (St m)) → (St m) → Option (Out m)} (hL : Up loop) {f : FuncId} {a : List (SV m)} {b : List (List (SV m))} {r : (SV m) × List (List (SV m))} (h : run2V P D H loop f a b = some r) : runV P D H loop f a b = some r := by
  unfold run2V at h
  unfold runV
  cases hfn : P.funcs[f]? with
  | none => rw [hfn] at h; simp at h
  | some fn =>
    rw [hfn] at h
    simp only at h ⊢
    cases hc : fn.body with
    | none => rw [hc] at h; simp at h
    | some c =>
      rw [hc] at h
      simp only at h ⊢
      exact code2_ref hL c 0 _ _ _ r (fun _ h => endK2_ref h) h
theorem den_fast {T : (Told m)} {H : FuncId → Hints} {f : FuncId} {a : List (SV m)} {b : List (List (SV m))} {r : (SV m) × List (List (SV m))} (hT : T f = none) (h : run2V P (den P T H) H limR f a b = some r) : den P T H f a b = some r :=
  den_run hT (run2_ref up_limR h)
end
end Go.Vs
end
section
namespace Go.Vs
variable {m : Bool}
def sub : Code → List Nat → Code
  | c, [] => c
  | .seq a b, n :: r => if n = 0 then sub a r else sub b r
  | .cond _ a b, n :: r => if n = 0 then sub a r else sub b r
  | .block _ a, _ :: r => sub a r
  | .loop a, _ :: r => sub a r
  | c, _ => c
def bodyOf (P : Program) (f : FuncId) : Code := match P.funcs[f]? with | some fn => fn.body.getD .skip | none => .skip
def fnOf (P : Program) (f : FuncId) : Func := (P.funcs[f]?).getD default
structure Tab where
  mv : List (List Nat)
  boxed : List (List Nat)
  take : List (List Nat)
  clear : List (Nat × List Nat)
  drop : List (Nat × List Nat)
  after : List (List Nat)
  afterB : List (List Nat)
  condA : List (Nat × List Nat × List Nat)
  condB : List (Nat × List Nat × List Nat)
  fz : List (Nat × List Nat)
def Tab.hints (t : Tab) : Hints :=
  { nt := 0
    mv := fun r i => (t.mv.getD r []).contains i
    pure := fun r i => !(t.boxed.getD r []).contains i
    take := fun r i => (t.take.getD r []).contains i
    clear := fun b => ((t.clear.find? fun p => p.1 == b).map (·.2)).getD []
    drop := fun b => ((t.drop.find? fun p => p.1 == b).map (·.2)).getD []
    after := fun r => t.after.getD r []
    afterB := fun r => t.afterB.getD r []
    condA := fun b => ((t.condA.find? fun p => p.1 == b).map (·.2)).getD ([], [])
    condB := fun b => ((t.condB.find? fun p => p.1 == b).map (·.2)).getD ([], [])
    fz := fun b => ((t.fz.find? fun p => p.1 == b).map (·.2)).getD [] }
def noTab : Tab := ⟨[], [], [], [], [], [], [], [], [], []⟩
end Go.Vs
end
section
namespace Go.Vs
variable {m : Bool}
section
variable {α β : Type}
theorem guarded_bind (b : Bool) (x : Option α) (f : α → Option β) : (guarded b x).bind f = guarded b (x.bind f) := by cases b <;> rfl
theorem branch_bind (b : Bool) (x y : Option α) (f : α → Option β) : (branch b x y).bind f = branch b (x.bind f) (y.bind f) := by cases b <;> rfl
theorem onBool_bind (v : (SV m)) (k : Bool → Option α) (f : α → Option β) : (onBool v k).bind f = onBool v fun b => (k b).bind f := by unfold onBool; split <;> rfl
theorem intK_bind (k0 : IntKind) (l : (Leaf m)) (k : Int → Option α) (f : α → Option β) : (intK k0 l k).bind f = intK k0 l fun n => (k n).bind f := by
  unfold intK; split
  · split <;> rfl
  · rfl
theorem boolK_bind (l : (Leaf m)) (k : Bool → Option α) (f : α → Option β) : (boolK l k).bind f = boolK l fun n => (k n).bind f := by unfold boolK; split <;> rfl
theorem strK_bind (l : (Leaf m)) (k : ByteArray → Option α) (f : α → Option β) : (strK l k).bind f = strK l fun n => (k n).bind f := by unfold strK; split <;> rfl
theorem slK_bind (l : (Leaf m)) (k : Fl m → List (List (Leaf m)) → Option α) (f : α → Option β) : (slK l k).bind f = slK l fun c n => (k c n).bind f := by unfold slK; split <;> rfl
theorem leafK_bind (P : Program) (t : TypeId) (l : (Leaf m)) (k : (Leaf m) → Option α) (f : α → Option β) : (leafK P t l k).bind f = leafK P t l fun n => (k n).bind f := by
  unfold leafK
  split
  · exact intK_bind _ _ _ _
  · exact boolK_bind _ _ _
  · exact strK_bind _ _ _
  · exact slK_bind _ _ _
  · rfl
theorem atK_bind (e : List (Leaf m)) (p : Nat) (k : (Leaf m) → Option α) (f : α → Option β) : (atK e p k).bind f = atK e p fun n => (k n).bind f := by unfold atK; split <;> rfl
theorem cellsAtK_bind (P : Program) : ∀ (ts : List TypeId) (e : List (Leaf m)) (p : Nat) (k : List (Leaf m) → Option α) (f : α → Option β), (cellsAtK P ts e p k).bind f = cellsAtK P ts e p fun n => (k n).bind f
  | [], e, p, k, f => rfl
  | t :: ts, e, p, k, f => by
    simp only [cellsAtK]
    rw [atK_bind]
    congr 1
    funext l
    rw [leafK_bind]
    congr 1
    funext l'
    exact cellsAtK_bind P ts e (p + 1) _ f
theorem partK_bind (P : Program) (t : TypeId) (e : List (Leaf m)) (p : Nat) (k : (SV m) → Option α) (f : α → Option β) : (partK P t e p k).bind f = partK P t e p fun n => (k n).bind f := by
  unfold partK
  split
  · rw [Option.bind_assoc]
    congr 1
    funext ts
    rw [Option.bind_assoc]
    congr 1
    funext n
    split
    · exact cellsAtK_bind P ts e p _ f
    · rfl
  · rw [atK_bind]
    congr 1
    funext l
    exact leafK_bind P t l _ f
theorem svLeafK_bind (v : (SV m)) (k : (Leaf m) → Option α) (f : α → Option β) : (svLeafK v k).bind f = svLeafK v fun n => (k n).bind f := by unfold svLeafK; split <;> rfl
theorem svSlK_bind (v : (SV m)) (k : Fl m → List (List (Leaf m)) → Option α) (f : α → Option β) : (svSlK v k).bind f = svSlK v fun c n => (k c n).bind f := by unfold svSlK; split <;> rfl
theorem svOwnK_bind (e : TypeId) (v : (SV m)) (k : List (List (Leaf m)) → Option α) (f : α → Option β) : (svOwnK e v k).bind f = svOwnK e v fun n => (k n).bind f := by
  unfold svOwnK; split
  · split <;> rfl
  · rfl
theorem svAggK_bind (v : (SV m)) (k : List (Leaf m) → Option α) (f : α → Option β) : (svAggK v k).bind f = svAggK v fun n => (k n).bind f := by unfold svAggK; split <;> rfl
theorem svNilK_bind (v : (SV m)) (k : Option α) (f : α → Option β) : (svNilK v k).bind f = svNilK v (k.bind f) := by unfold svNilK; split <;> rfl
theorem svTupK_bind (v : (SV m)) (k : List (SV m) → Option α) (f : α → Option β) : (svTupK v k).bind f = svTupK v fun n => (k n).bind f := by unfold svTupK; split <;> rfl
theorem headK_bind (l : List (SV m)) (k : (SV m) → List (SV m) → Option α) (f : α → Option β) : (headK l k).bind f = headK l fun v r => (k v r).bind f := by unfold headK; split <;> rfl
theorem lastK_bind (l : List (SV m)) (k : Option α) (f : α → Option β) : (lastK l k).bind f = lastK l (k.bind f) := by unfold lastK; split <;> rfl
theorem cast1K_bind (P : Program) (own : Bool) (t : TypeId) (v : (SV m)) (k : (SV m) → Option α) (f : α → Option β) : (cast1K P own t v k).bind f = cast1K P own t v fun n => (k n).bind f := by
  unfold cast1K
  split
  · split
    · exact svOwnK_bind _ _ _ _
    · exact svSlK_bind _ _ _
  · rw [svAggK_bind]
    congr 1
    funext cs
    rw [Option.bind_assoc]
    congr 1
    funext ts
    rw [guarded_bind]
    congr 1
    exact cellsAtK_bind P ts cs 0 _ f
  · exact svNilK_bind _ _ _
  · rw [svLeafK_bind]
    congr 1
    funext l
    exact leafK_bind P t l _ f
  · rfl
theorem castsK_bind (P : Program) : ∀ (ts : List TypeId) (l : List (SV m)) (k : List (SV m) → Option α) (f : α → Option β), (castsK P ts l k).bind f = castsK P ts l fun n => (k n).bind f
  | [], l, k, f => lastK_bind l _ f
  | t :: ts, l, k, f => by
    simp only [castsK]
    rw [headK_bind]
    congr 1
    funext v r
    rw [cast1K_bind]
    congr 1
    funext v'
    exact castsK_bind P ts r _ f
theorem castK_bind (P : Program) (own : Bool) (t : TypeId) (v : (SV m)) (k : (SV m) → Option α) (f : α → Option β) : (castK P own t v k).bind f = castK P own t v fun n => (k n).bind f := by
  unfold castK
  split
  · rw [svTupK_bind]
    congr 1
    funext vs
    exact castsK_bind P _ vs _ f
  · exact cast1K_bind P own t v k f
theorem likeK_bind (c d : (SV m)) (k : (SV m) → Option α) (f : α → Option β) : (likeK c d k).bind f = likeK c d fun n => (k n).bind f := by
  unfold likeK
  split
  · rw [svLeafK_bind]; congr 1; funext l; exact intK_bind _ _ _ _
  · rw [svLeafK_bind]; congr 1; funext l; exact boolK_bind _ _ _
  · rw [svLeafK_bind]; congr 1; funext l; exact strK_bind _ _ _
  · exact svSlK_bind _ _ _
  · exact svOwnK_bind _ _ _ _
  · rfl
theorem likesK_bind : ∀ (cs l : List (SV m)) (k : List (SV m) → Option α) (f : α → Option β), (likesK cs l k).bind f = likesK cs l fun n => (k n).bind f
  | [], l, k, f => lastK_bind l _ f
  | c :: cs, l, k, f => by
    simp only [likesK]
    rw [headK_bind]
    congr 1
    funext v r
    rw [likeK_bind]
    congr 1
    funext v'
    exact likesK_bind cs r _ f
theorem boxK_bind (w : Bool) (c d : List (SV m)) (k : List (SV m) → Option α) (f : α → Option β) : (boxK w c d k).bind f = boxK w c d fun n => (k n).bind f := by
  cases w
  · exact likesK_bind c d k f
  · rfl
theorem boxesK_bind : ∀ (ws : List Bool) (cs l : List (List (SV m))) (k : List (List (SV m)) → Option α) (f : α → Option β), (boxesK ws cs l k).bind f = boxesK ws cs l fun n => (k n).bind f
  | [], _, l, k, f => by simp only [boxesK]; unfold lastB; split <;> rfl
  | w :: ws, [], l, k, f => by simp only [boxesK]; unfold lastB; split <;> rfl
  | w :: ws, c :: cs, l, k, f => by
    simp only [boxesK]
    unfold headB
    split
    · rw [boxK_bind]
      congr 1
      funext v'
      exact boxesK_bind ws cs _ _ f
    · rfl
theorem atSV_bind (cs : List (SV m)) (p : Nat) (k : (SV m) → Option α) (f : α → Option β) : (atSV cs p k).bind f = atSV cs p fun n => (k n).bind f := by unfold atSV; split <;> rfl
theorem dropK_bind (P : Program) (t : TypeId) (c : (SV m)) (k : (SV m) → Option α) (f : α → Option β) : (dropK P t c k).bind f = dropK P t c fun n => (k n).bind f := by
  unfold dropK; split
  · exact cast1K_bind P false t _ k f
  · rfl
theorem svRawK_bind (e : TypeId) (v : (SV m)) (k : List (List (Leaf m)) → Option α) (f : α → Option β) : (svRawK e v k).bind f = svRawK e v fun n => (k n).bind f := by
  unfold svRawK; split
  · split <;> rfl
  · rfl
theorem svBslK_bind (i z : Nat) (v : (SV m)) (k : Nat → Nat → Option α) (f : α → Option β) : (svBslK i z v k).bind f = svBslK i z v fun a n => (k a n).bind f := by
  unfold svBslK; split
  · split <;> rfl
  · rfl
theorem resK_bind (P : Program) (own : Bool) (rk : Nat) (dst : Option Tmp) (t : TypeId) (v : (SV m)) (k : (SV m) → Option α) (f : α → Option β) : (resK P own rk dst t v k).bind f = resK P own rk dst t v fun n => (k n).bind f := by
  unfold resK; split
  · split
    · rfl
    · exact castK_bind P own t v k f
  · rw [Option.bind_assoc]; congr 1; funext e; exact svRawK_bind _ _ _ _
  · exact svBslK_bind _ _ _ _ _
variable {P : Program} {D : (Oracle m)}
theorem call2K_bind (s : (St m)) (own pu : Bool) (rk : Nat) (g : FuncId) (args : List (SV m)) (dst : Option Tmp) (t : TypeId) (k : (St m) → Option α) (f : α → Option β) : (call2K P D s own pu rk g args dst t k).bind f = call2K P D s own pu rk g args dst t fun n => (k n).bind f := by
  unfold call2K
  rw [guarded_bind]
  congr 1
  split
  · rw [guarded_bind, Option.bind_assoc]
    congr 1
    congr 1
    funext r
    exact resK_bind _ _ _ _ _ _ _ _
  · rw [Option.bind_assoc]
    congr 1
    funext cs
    rw [guarded_bind, Option.bind_assoc]
    congr 1
    congr 1
    funext r
    rw [boxesK_bind]
    congr 1
    funext bs
    exact resK_bind _ _ _ _ _ _ _ _
theorem exec_bind {nt : Nat} {mv pu ta : Bool} {o : Oper} {s : (St m)} (k : (St m) → Option α) (f : α → Option β) : (execK P D nt mv pu ta o s k).bind f = execK P D nt mv pu ta o s fun n => (k n).bind f := by
  rw [exec_eff, exec_eff, Option.bind_assoc]
theorem g_bind (x : Option (Bool × (SV m))) (k : (SV m) → Option α) (f : α → Option β) : (x.bind fun p => guarded p.1 (k p.2)).bind f = x.bind fun p => guarded p.1 ((k p.2).bind f) := by
  rw [Option.bind_assoc]; congr 1; funext p; exact guarded_bind _ _ _
theorem exec2_bind {nt : Nat} {mv pu ta : Bool} {rk : Nat} {o : Oper} {s : (St m)} (k : (St m) → Option α) (f : α → Option β) : (exec2K P D nt mv pu ta rk o s k).bind f = exec2K P D nt mv pu ta rk o s fun n => (k n).bind f := by
  cases hop : o.op
  case pick c x z =>
    simp only [exec2K, hop]
    rw [onBool_bind]
    congr 1
    funext b
    rw [branch_bind]
  case load t x =>
    simp only [exec2K, hop]
    split
    · exact partK_bind P t _ _ _ f
    · split
      · rw [Option.bind_assoc]
        congr 1
        funext cs
        rw [atSV_bind]
        congr 1
        funext c
        exact dropK_bind P t c _ f
      · rw [Option.bind_assoc]
        congr 1
        funext cs
        rw [Option.bind_assoc]
        congr 1
        funext n
        rw [guarded_bind]
        unfold rowK
        rw [Option.bind_assoc]
        congr 2
        funext e
        exact partK_bind P t e 0 _ f
      · exact exec_bind k f
    · exact exec_bind k f
  case store t x y =>
    simp only [exec2K, hop]
    split
    · rw [Option.bind_assoc]
      congr 1
      funext cs
      rw [Option.bind_assoc]
      congr 1
      funext n
      rw [guarded_bind, guarded_bind]
    · exact exec_bind k f
  case makeSlice t l c =>
    simp only [exec2K, hop]
    split
    · split
      · rw [guarded_bind, Option.bind_assoc]
        congr 1
        congr 1
        funext p
        exact guarded_bind _ _ _
      · rfl
    · rfl
  case binOp op t x z u => simp only [exec2K, hop]; exact g_bind _ (fun v => k (s.put o.dst v)) f
  case convert src dst x => simp only [exec2K, hop]; exact g_bind _ (fun v => k (s.put o.dst v)) f
  case slice t x lo hi mx =>
    cases mx with
    | some m => simp only [exec2K, hop]; exact exec_bind k f
    | none =>
      simp only [exec2K, hop]
      rw [Option.bind_assoc]; congr 1; funext l
      rw [Option.bind_assoc]; congr 1; funext h
      rw [Option.bind_assoc]; congr 1; funext p
      exact guarded_bind _ _ _
  case indexAddr t x i => simp only [exec2K, hop]; exact g_bind _ (fun v => k (s.put o.dst v)) f
  case index t x i => simp only [exec2K, hop]; exact g_bind _ (fun v => k (s.put o.dst v)) f
  case call c =>
    cases hc : c.callee with
    | invoke r m => simp only [exec2K, hop, hc]; exact exec_bind k f
    | value g =>
      simp only [exec2K, hop, hc]
      split
      · rw [guarded_bind, call2K_bind]
      · rfl
    | builtin b =>
      cases b
      case append =>
        simp only [exec2K, hop, hc]
        split
        · rename_i x z _
          exact g_bind _ (fun v => k ((s.take x).put o.dst v)) f
        · rfl
      case clear =>
        simp only [exec2K, hop, hc]
        split
        · split
          · rw [Option.bind_assoc]; congr 1; funext cs
            rw [Option.bind_assoc]; congr 1; funext t
            rw [Option.bind_assoc]; congr 1; funext e
            rw [Option.bind_assoc]; congr 1; funext ze
            rw [guarded_bind, guarded_bind]
          · rfl
        · rfl
      all_goals (simp only [exec2K, hop, hc]; exact exec_bind k f)
  all_goals (simp only [exec2K, hop]; exact exec_bind k f)
theorem step2_bind {nt : Nat} {mv pu ta : Bool} {rk : Nat} {ops : Array Oper} {o : Oper} {s : (St m)} (k : (St m) → Option α) (f : α → Option β) : (step2K P D nt mv pu ta rk ops o s k).bind f = step2K P D nt mv pu ta rk ops o s fun n => (k n).bind f := by
  unfold step2K
  split
  · exact exec2_bind k f
  · split
    · unfold guard2
      split
      · rw [branch_bind, exec2_bind]
      · rfl
      · rfl
    · rfl
theorem steps2_bind {nt : Nat} {mv pu ta : Nat → Bool} {rk : Nat → Nat} {ops : Array Oper} : ∀ (l : List Oper) (i : Nat) (s : (St m)) (k : (St m) → Option α) (f : α → Option β), (steps2K P D nt mv pu ta rk ops l i s k).bind f = steps2K P D nt mv pu ta rk ops l i s fun n => (k n).bind f
  | [], i, s, k, f => rfl
  | o :: l, i, s, k, f => by
    simp only [steps2K]
    rw [step2_bind]
    congr 1
    funext s'
    exact steps2_bind l (i + 1) s' k f
end
theorem code2_bind {P : Program} {D : (Oracle m)} {H : Hints} {loop : ((St m) → Option (Out m)) → ((St m) → Option (St m)) → (St m) → Option (Out m)} : ∀ (c : Code) (blk : Nat) {β γ : Type} (s : (St m)) (k : (Out m) → Option β) (f : β → Option γ), (code2K P D H loop blk c s k).bind f = code2K P D H loop blk c s fun o => (k o).bind f := by
  intro c
  induction c with
  | skip => intro blk β γ s k f; rfl
  | region id ops draw =>
    intro blk β γ s k f
    simp only [code2K, forceSt_eq]
    rw [guarded_bind, steps2_bind]
  | seq a b iha ihb =>
    intro blk β γ s k f
    simp only [code2K]
    rw [iha]
    congr 1
    funext o
    cases o with
    | norm s' => exact ihb blk s' k f
    | exit id s' => rfl
    | ret s' => rfl
  | cond x a b iha ihb =>
    intro blk β γ s k f
    simp only [code2K, forceSt_eq]
    rw [onBool_bind]
    congr 1
    funext t
    rw [branch_bind, iha, ihb]
  | block id a ih =>
    intro blk β γ s k f
    simp only [code2K]
    rw [ih]
    congr 1
    funext o
    cases o with
    | norm s' => rfl
    | exit id' s' => simp only [blockK]; split <;> rfl
    | ret s' => rfl
  | loop a ih => intro blk β γ s k f; simp only [code2K]; rw [Option.bind_assoc]
  | exit id => intro blk β γ s k f; rfl
  | ret => intro blk β γ s k f; rfl
  | _ => intro blk β γ s k f; rfl
def loopK (ts bs : List Nat) (L : (St m) → Option (Out m)) : (Out m) → Option (Out m)
  | .norm s => (s.again ts bs).bind L
  | .exit id s => some (.exit id s)
  | .ret s => some (.ret s)
def roundV (P : Program) (D : (Oracle m)) (H : Hints) (loop : ((St m) → Option (Out m)) → ((St m) → Option (St m)) → (St m) → Option (Out m)) (blk : Nat) (c : Code) (L : (St m) → Option (Out m)) (s : (St m)) : Option (Out m) :=
  (s.again (H.clear blk) (H.drop blk)).bind fun s => code2K P D H loop blk c s (loopK (H.clear blk) (H.drop blk) L)
noncomputable def loopV (P : Program) (D : (Oracle m)) (H : Hints) (blk : Nat) (c : Code) : (St m) → Option (Out m) := limR (fun s => code2K P D H limR blk c s some) (fun s => s.again (H.clear blk) (H.drop blk))
theorem foldl_set_idem {α : Type} (x : α) (ts : List Nat) : ∀ (l : List α), (∀ t ∈ ts, l[t]? = none ∨ l[t]? = some x) → ts.foldl (fun l t => l.set t x) l = l := by
  induction ts with
  | nil => intro l _; rfl
  | cons t ts ih =>
    intro l h
    have h0 : l.set t x = l := by
      rcases h t (by simp) with h | h
      · rw [List.set_eq_of_length_le (by simpa using h)]
      · apply List.ext_getElem?
        intro i
        by_cases hi : t = i
        · subst hi
          rw [List.getElem?_set_self (List.getElem?_eq_some_iff.1 h).1, h]
        · rw [List.getElem?_set_ne hi]
    rw [List.foldl_cons, h0]
    exact ih l fun u hu => h u (by simp [hu])
theorem foldl_set_get {α : Type} (x : α) (ts : List Nat) : ∀ (l : List α), ∀ t ∈ ts, (ts.foldl (fun l t => l.set t x) l)[t]? = none ∨ (ts.foldl (fun l t => l.set t x) l)[t]? = some x := by
  have keep : ∀ (ts : List Nat) (l : List α) (t : Nat), (l[t]? = none ∨ l[t]? = some x) → ((ts.foldl (fun l t => l.set t x) l)[t]? = none ∨ (ts.foldl (fun l t => l.set t x) l)[t]? = some x) := by
    intro ts
    induction ts with
    | nil => intro l t h; exact h
    | cons u ts ih =>
      intro l t h
      rw [List.foldl_cons]
      refine ih _ t ?_
      by_cases hu : u = t
      · subst hu
        by_cases hl : u < l.length
        · right; exact List.getElem?_set_self hl
        · left; exact List.getElem?_eq_none (by simpa using hl)
      · rw [List.getElem?_set_ne hu]; exact h
  induction ts with
  | nil => intro l t h; simp at h
  | cons u ts ih =>
    intro l t ht
    rw [List.foldl_cons]
    by_cases h : t ∈ ts
    · exact ih _ t h
    · have : t = u := by
        rcases List.mem_cons.1 ht with h' | h'
        · exact h'
        · exact absurd h' h
      subst this
      refine keep ts _ t ?_
      by_cases hl : t < l.length
      · right; exact List.getElem?_set_self hl
      · left; exact List.getElem?_eq_none (by simpa using hl)
theorem forget_idem (s : (St m)) (ts bs : List Nat) : (s.forget ts bs).forget ts bs = s.forget ts bs := by
  unfold St.forget
  congr 1
  · exact foldl_set_idem _ _ _ (foldl_set_get _ _ _)
  · exact foldl_set_idem _ _ _ (foldl_set_get _ _ _)
theorem again_idem {s c : (St m)} {ts bs : List Nat} (h : s.again ts bs = some c) : c.again ts bs = some c := by
  unfold St.again at h ⊢
  obtain ⟨h1, h2⟩ := guarded_eq h
  simp only [Option.some.injEq] at h2
  subst h2
  rw [forget_idem, h1]
  rfl
theorem loopV_again (P : Program) (D : (Oracle m)) (H : Hints) (blk : Nat) (c : Code) (s : (St m)) : loopV P D H blk c s = (s.again (H.clear blk) (H.drop blk)).bind (loopV P D H blk c) := by
  unfold loopV
  rw [limR_open]
  cases h : s.again (H.clear blk) (H.drop blk) with
  | none => rfl
  | some c' =>
    simp only [Option.bind_some]
    rw [limR_open _ _ c', again_idem h]
    rfl
theorem loopV_open (P : Program) (D : (Oracle m)) (H : Hints) (blk : Nat) (c : Code) (s : (St m)) : loopV P D H blk c s = roundV P D H limR blk c (loopV P D H blk c) s := by
  show limR _ _ s = _
  rw [limR_open]
  unfold roundV
  congr 1
  funext s'
  rw [code2_bind]
  congr 1
  funext o
  cases o with
  | norm s2 => exact loopV_again P D H blk c s2
  | exit id s2 => rfl
  | ret s2 => rfl
end Go.Vs
end
section
namespace Go.Vs
variable {m : Bool}
def blkAt : Nat → Code → List Nat → Nat
  | b, _, [] => b
  | b, .seq x y, n :: r => if n = 0 then blkAt b x r else blkAt b y r
  | b, .cond _ x y, n :: r => if n = 0 then blkAt b x r else blkAt b y r
  | _, .block id x, _ :: r => blkAt id x r
  | b, .loop x, _ :: r => blkAt b x r
  | b, _, _ => b
def againK {β : Type} (s : St m) (ts bs : List Nat) (k : (St m) → Option β) : Option β := guarded ((s.forget ts bs).noBox bs) (k (s.forget ts bs))
theorem again_bind {β : Type} (s : St m) (ts bs : List Nat) (k : (St m) → Option β) : (s.again ts bs).bind k = againK s ts bs k := by
  unfold St.again againK
  cases (s.forget ts bs).noBox bs <;> rfl
def loopK2 {β : Type} (ts bs : List Nat) (L : (St m) → Option β) (k : (Out m) → Option β) : (Out m) → Option β
  | .norm s => againK s ts bs L
  | .exit id s => k (.exit id s)
  | .ret s => k (.ret s)
noncomputable def contK {β : Type} (P : Program) (D : (Oracle m)) (H : Hints) : Nat → Code → List Nat → ((Out m) → Option β) → (Out m) → Option β
  | _, _, [], k => k
  | b, .seq x y, n :: r, k => if n = 0 then contK P D H b x r (seqK (fun s => code2K P D H limR b y s k) k) else contK P D H b y r k
  | b, .cond _ x y, n :: r, k => if n = 0 then contK P D H b x r k else contK P D H b y r k
  | _, .block id x, _ :: r, k => contK P D H id x r (blockK id k)
  | b, .loop x, _ :: r, k => contK P D H b x r (loopK2 (H.clear b) (H.drop b) (fun s => code2K P D H limR b (.loop x) s k) k)
  | _, _, _, k => k
noncomputable def atF (P : Program) (D : (Oracle m)) (H : FuncId → Hints) (f : FuncId) (p : List Nat) (n : Nat) (s : (St m)) : Option ((SV m) × List (List (SV m))) :=
  code2K P D ((H f).fit (fnOf P f).ntmps) limR (blkAt 0 (bodyOf P f) p) (sub (bodyOf P f) p) s (contK P D ((H f).fit (fnOf P f).ntmps) 0 (bodyOf P f) p (endK2 P (fnOf P f) n))
theorem loop_open {β : Type} (P : Program) (D : (Oracle m)) (H : Hints) (b : Nat) (c : Code) (s : (St m)) (k : (Out m) → Option β) :
    code2K P D H limR b (.loop c) s k = (s.again (H.clear b) (H.drop b)).bind fun s => code2K P D H limR b c s (loopK2 (H.clear b) (H.drop b) (fun s => code2K P D H limR b (.loop c) s k) k) := by
  have h0 : ∀ s, code2K P D H limR b (.loop c) s k = (loopV P D H b c s).bind k := fun s => rfl
  rw [h0, loopV_open]
  unfold roundV
  rw [Option.bind_assoc]
  congr 1
  funext s'
  rw [code2_bind]
  congr 1
  funext o
  cases o with
  | norm s2 =>
    simp only [loopK, loopK2, ← again_bind, Option.bind_assoc]
    congr 1
  | exit id s2 => rfl
  | ret s2 => rfl
theorem atF_loop {P : Program} {D : (Oracle m)} {H : FuncId → Hints} {f : FuncId} {p : List Nat} {c : Code} (hc : sub (bodyOf P f) p = .loop c) (n : Nat) (s : (St m)) :
    atF P D H f p n s = (s.again (((H f).fit (fnOf P f).ntmps).clear (blkAt 0 (bodyOf P f) p)) (((H f).fit (fnOf P f).ntmps).drop (blkAt 0 (bodyOf P f) p))).bind fun s =>
      code2K P D ((H f).fit (fnOf P f).ntmps) limR (blkAt 0 (bodyOf P f) p) c s (loopK2 (((H f).fit (fnOf P f).ntmps).clear (blkAt 0 (bodyOf P f) p)) (((H f).fit (fnOf P f).ntmps).drop (blkAt 0 (bodyOf P f) p))
        (fun s => code2K P D ((H f).fit (fnOf P f).ntmps) limR (blkAt 0 (bodyOf P f) p) (.loop c) s (contK P D ((H f).fit (fnOf P f).ntmps) 0 (bodyOf P f) p (endK2 P (fnOf P f) n))) (contK P D ((H f).fit (fnOf P f).ntmps) 0 (bodyOf P f) p (endK2 P (fnOf P f) n))) := by
  unfold atF
  rw [hc]
  exact loop_open _ _ _ _ _ _ _
end Go.Vs
end
section
namespace Go.Vs
variable {m : Bool}
section
variable {β : Type}
def codeN (P : Program) (D : (Oracle m)) (H : Hints) (nm : List (List Nat)) (J : List Nat × (St m) → Option β) : List Nat → Nat → Code → (St m) → ((Out m) → Option β) → Option β
  | _, _, .skip, s, k => k (.norm s)
  | _, _, .region id ops draw, s, k => guarded (!draw || okRegion (H.mv id) (H.pure id) (H.take id) ops) (steps2K P D H.nt (H.mv id) (H.pure id) (H.take id) (rkOf H id) ops ops.toList 0 s fun s' => forceSt (St.freeze H.nt (s'.tidy (H.after id) (H.afterB id)) (H.fz id)) fun s' => k (.norm s'))
  | r, blk, .seq a b, s, k =>
    if nm.contains (0 :: r).reverse then J ((0 :: r).reverse, s) else codeN P D H nm J (0 :: r) blk a s (seqK (fun s' => if nm.contains (1 :: r).reverse then J ((1 :: r).reverse, s') else codeN P D H nm J (1 :: r) blk b s' k) k)
  | r, blk, .cond c a b, s, k => onBool (s.eval c) fun t => branch t
      (forceSt (s.dropC H.condA c) fun s => if nm.contains (0 :: r).reverse then J ((0 :: r).reverse, s) else codeN P D H nm J (0 :: r) blk a s k)
      (forceSt (s.dropC H.condB c) fun s => if nm.contains (1 :: r).reverse then J ((1 :: r).reverse, s) else codeN P D H nm J (1 :: r) blk b s k)
  | r, _, .block id a, s, k => if nm.contains (0 :: r).reverse then J ((0 :: r).reverse, s) else codeN P D H nm J (0 :: r) id a s (blockK id k)
  | r, blk, .loop a, s, k => againK s (H.clear blk) (H.drop blk) fun s => if nm.contains (0 :: r).reverse then J ((0 :: r).reverse, s) else codeN P D H nm J (0 :: r) blk a s (loopK2 (H.clear blk) (H.drop blk) (fun s => J (r.reverse, s)) k)
  | _, _, .exit id, s, k => k (.exit id s)
  | _, _, .ret, s, k => k (.ret s)
  | _, _, _, _, _ => none
theorem sub_append : ∀ (p : List Nat) (c : Code) (q : List Nat), sub c (p ++ q) = sub (sub c p) q
  | [], c, q => by simp [sub]
  | n :: p, c, q => by
    cases c <;> simp only [List.cons_append, sub]
    case seq a b => split <;> exact sub_append p _ q
    case cond x a b => split <;> exact sub_append p _ q
    case block id a => exact sub_append p _ q
    case loop a => exact sub_append p _ q
    all_goals (cases q <;> rfl)
theorem blkAt_append : ∀ (p : List Nat) (b : Nat) (c : Code) (q : List Nat), blkAt b c (p ++ q) = blkAt (blkAt b c p) (sub c p) q
  | [], b, c, q => by simp [sub, blkAt]
  | n :: p, b, c, q => by
    cases c <;> simp only [List.cons_append, sub, blkAt]
    case seq x y => split <;> exact blkAt_append p _ _ q
    case cond x x y => split <;> exact blkAt_append p _ _ q
    case block id x => exact blkAt_append p _ _ q
    case loop x => exact blkAt_append p _ _ q
    all_goals (cases q <;> rfl)
theorem contK_append (P : Program) (D : (Oracle m)) (H : Hints) : ∀ (p : List Nat) (b : Nat) (c : Code) (q : List Nat) (k : (Out m) → Option β), contK P D H b c (p ++ q) k = contK P D H (blkAt b c p) (sub c p) q (contK P D H b c p k)
  | [], b, c, q, k => by simp [sub, blkAt, contK]
  | n :: p, b, c, q, k => by
    cases c <;> simp only [List.cons_append, sub, blkAt, contK]
    case seq x y => split <;> exact contK_append P D H p _ _ q _
    case cond x x y => split <;> exact contK_append P D H p _ _ q _
    case block id x => exact contK_append P D H p _ _ q _
    case loop x => exact contK_append P D H p _ _ q _
    all_goals (cases q <;> rfl)
theorem codeN_eq {P : Program} {D : (Oracle m)} {H : Hints} {nm : List (List Nat)} {J : List Nat × (St m) → Option β} {root : Code} {kE : (Out m) → Option β}
    (hJ : ∀ p s, J (p, s) = code2K P D H limR (blkAt 0 root p) (sub root p) s (contK P D H 0 root p kE)) :
    ∀ (c : Code) (r : List Nat) (blk : Nat) (s : (St m)) (k : (Out m) → Option β), sub root r.reverse = c → blkAt 0 root r.reverse = blk → contK P D H 0 root r.reverse kE = k → codeN P D H nm J r blk c s k = code2K P D H limR blk c s k := by
  intro c
  induction c with
  | skip => intro r blk s k _ _ _; rfl
  | region id ops draw => intro r blk s k _ _ _; rfl
  | seq a b iha ihb =>
    intro r blk s k hc hb hk
    have ha0 : sub root (0 :: r).reverse = a := by rw [List.reverse_cons, sub_append, hc]; simp [sub]
    have ha1 : blkAt 0 root (0 :: r).reverse = blk := by rw [List.reverse_cons, blkAt_append, hc, hb]; simp [blkAt]
    have ha2 : contK P D H 0 root (0 :: r).reverse kE = seqK (fun s => code2K P D H limR blk b s k) k := by rw [List.reverse_cons, contK_append, hc, hb, hk]; simp [contK]
    have hb0 : sub root (1 :: r).reverse = b := by rw [List.reverse_cons, sub_append, hc]; simp [sub]
    have hb1 : blkAt 0 root (1 :: r).reverse = blk := by rw [List.reverse_cons, blkAt_append, hc, hb]; simp [blkAt]
    have hb2 : contK P D H 0 root (1 :: r).reverse kE = k := by rw [List.reverse_cons, contK_append, hc, hb, hk]; simp [contK]
    have eb : (fun s' => if nm.contains (1 :: r).reverse then J ((1 :: r).reverse, s') else codeN P D H nm J (1 :: r) blk b s' k) = fun s' => code2K P D H limR blk b s' k := by
      funext s'
      split
      · rw [hJ, hb0, hb1, hb2]
      · exact ihb _ _ _ _ hb0 hb1 hb2
    simp only [codeN, code2K]
    rw [eb]
    split
    · rw [hJ, ha0, ha1, ha2]
    · exact iha _ _ _ _ ha0 ha1 ha2
  | cond x a b iha ihb =>
    intro r blk s k hc hb hk
    have ha0 : sub root (0 :: r).reverse = a := by rw [List.reverse_cons, sub_append, hc]; simp [sub]
    have ha1 : blkAt 0 root (0 :: r).reverse = blk := by rw [List.reverse_cons, blkAt_append, hc, hb]; simp [blkAt]
    have ha2 : contK P D H 0 root (0 :: r).reverse kE = k := by rw [List.reverse_cons, contK_append, hc, hb, hk]; simp [contK]
    have hb0 : sub root (1 :: r).reverse = b := by rw [List.reverse_cons, sub_append, hc]; simp [sub]
    have hb1 : blkAt 0 root (1 :: r).reverse = blk := by rw [List.reverse_cons, blkAt_append, hc, hb]; simp [blkAt]
    have hb2 : contK P D H 0 root (1 :: r).reverse kE = k := by rw [List.reverse_cons, contK_append, hc, hb, hk]; simp [contK]
    simp only [codeN, code2K, forceSt_eq]
    congr 1
    funext t
    congr 1
    · split
      · rw [hJ, ha0, ha1, ha2]
      · exact iha _ _ _ _ ha0 ha1 ha2
    · split
      · rw [hJ, hb0, hb1, hb2]
      · exact ihb _ _ _ _ hb0 hb1 hb2
  | block id a ih =>
    intro r blk s k hc hb hk
    have ha0 : sub root (0 :: r).reverse = a := by rw [List.reverse_cons, sub_append, hc]; simp [sub]
    have ha1 : blkAt 0 root (0 :: r).reverse = id := by rw [List.reverse_cons, blkAt_append, hc, hb]; simp [blkAt]
    have ha2 : contK P D H 0 root (0 :: r).reverse kE = blockK id k := by rw [List.reverse_cons, contK_append, hc, hb, hk]; simp [contK]
    simp only [codeN, code2K]
    split
    · rw [hJ, ha0, ha1, ha2]
    · exact ih _ _ _ _ ha0 ha1 ha2
  | loop a ih =>
    intro r blk s k hc hb hk
    have ha0 : sub root (0 :: r).reverse = a := by rw [List.reverse_cons, sub_append, hc]; simp [sub]
    have ha1 : blkAt 0 root (0 :: r).reverse = blk := by rw [List.reverse_cons, blkAt_append, hc, hb]; simp [blkAt]
    have eL : (fun s => J (r.reverse, s)) = fun s => code2K P D H limR blk (.loop a) s k := by funext s'; rw [hJ, hc, hb, hk]
    have ha2 : contK P D H 0 root (0 :: r).reverse kE = loopK2 (H.clear blk) (H.drop blk) (fun s => code2K P D H limR blk (.loop a) s k) k := by rw [List.reverse_cons, contK_append, hc, hb, hk]; simp [contK]
    simp only [codeN]
    rw [loop_open, again_bind, eL]
    unfold againK
    congr 1
    simp only
    split
    · rw [hJ, ha0, ha1, ha2]
    · exact ih _ _ _ _ ha0 ha1 ha2
  | exit id => intro r blk s k _ _ _; rfl
  | ret => intro r blk s k _ _ _; rfl
  | _ => intro r blk s k _ _ _; rfl
end
noncomputable def contN {β : Type} (P : Program) (D : (Oracle m)) (H : Hints) (nm : List (List Nat)) (J : List Nat × (St m) → Option β) : List Nat → Nat → Code → List Nat → ((Out m) → Option β) → (Out m) → Option β
  | _, _, _, [], k => k
  | r, b, .seq x y, n :: p, k => if n = 0 then contN P D H nm J (n :: r) b x p (seqK (fun s => if nm.contains (1 :: r).reverse then J ((1 :: r).reverse, s) else codeN P D H nm J (1 :: r) b y s k) k) else contN P D H nm J (n :: r) b y p k
  | r, b, .cond _ x y, n :: p, k => if n = 0 then contN P D H nm J (n :: r) b x p k else contN P D H nm J (n :: r) b y p k
  | r, _, .block id x, n :: p, k => contN P D H nm J (n :: r) id x p (blockK id k)
  | r, b, .loop x, n :: p, k => contN P D H nm J (n :: r) b x p (loopK2 (H.clear b) (H.drop b) (fun s => J (r.reverse, s)) k)
  | _, _, _, _, k => k
theorem contN_eq {β : Type} {P : Program} {D : (Oracle m)} {H : Hints} {nm : List (List Nat)} {J : List Nat × (St m) → Option β} {root : Code} {kE : (Out m) → Option β}
    (hJ : ∀ p s, J (p, s) = code2K P D H limR (blkAt 0 root p) (sub root p) s (contK P D H 0 root p kE)) :
    ∀ (p : List Nat) (c : Code) (r : List Nat) (blk : Nat) (k : (Out m) → Option β), sub root r.reverse = c → blkAt 0 root r.reverse = blk → contK P D H 0 root r.reverse kE = k → contN P D H nm J r blk c p k = contK P D H blk c p k := by
  intro p
  induction p with
  | nil => intro c r blk k _ _ _; simp [contN, contK]
  | cons n p ih =>
    intro c r blk k hc hb hk
    have hs : ∀ n, sub root (n :: r).reverse = sub c [n] := fun n => by rw [List.reverse_cons, sub_append, hc]
    have hbl : ∀ n, blkAt 0 root (n :: r).reverse = blkAt blk c [n] := fun n => by rw [List.reverse_cons, blkAt_append, hc, hb]
    have hkk : ∀ n, contK P D H 0 root (n :: r).reverse kE = contK P D H blk c [n] k := fun n => by rw [List.reverse_cons, contK_append, hc, hb, hk]
    cases c with
    | seq x y =>
      have hb0 : sub root (1 :: r).reverse = y := by rw [hs]; simp [sub]
      have hb1 : blkAt 0 root (1 :: r).reverse = blk := by rw [hbl]; simp [blkAt]
      have hb2 : contK P D H 0 root (1 :: r).reverse kE = k := by rw [hkk]; simp [contK]
      have eb : (fun s => if nm.contains (1 :: r).reverse then J ((1 :: r).reverse, s) else codeN P D H nm J (1 :: r) blk y s k) = fun s => code2K P D H limR blk y s k := by
        funext s'
        split
        · rw [hJ, hb0, hb1, hb2]
        · exact codeN_eq hJ _ _ _ _ _ hb0 hb1 hb2
      simp only [contN, contK]
      rw [eb]
      by_cases hn : n = 0
      · subst hn
        simp only [if_true]
        exact ih _ _ _ _ (by rw [hs]; simp [sub]) (by rw [hbl]; simp [blkAt]) (by rw [hkk]; simp [contK])
      · simp only [hn, if_false]
        exact ih _ _ _ _ (by rw [hs]; simp [sub, hn]) (by rw [hbl]; simp [blkAt, hn]) (by rw [hkk]; simp [contK, hn])
    | cond z x y =>
      simp only [contN, contK]
      by_cases hn : n = 0
      · subst hn
        simp only [if_true]
        exact ih _ _ _ _ (by rw [hs]; simp [sub]) (by rw [hbl]; simp [blkAt]) (by rw [hkk]; simp [contK])
      · simp only [hn, if_false]
        exact ih _ _ _ _ (by rw [hs]; simp [sub, hn]) (by rw [hbl]; simp [blkAt, hn]) (by rw [hkk]; simp [contK, hn])
    | block id x =>
      simp only [contN, contK]
      exact ih _ _ _ _ (by rw [hs]; simp [sub]) (by rw [hbl]; simp [blkAt]) (by rw [hkk]; simp [contK])
    | loop x =>
      have eL : (fun s => J (r.reverse, s)) = fun s => code2K P D H limR blk (.loop x) s k := by funext s'; rw [hJ, hc, hb, hk]
      simp only [contN, contK]
      rw [eL]
      exact ih _ _ _ _ (by rw [hs]; simp [sub]) (by rw [hbl]; simp [blkAt]) (by rw [hkk]; simp [contK])
    | _ => simp [contN, contK]
noncomputable def nameF (P : Program) (D : (Oracle m)) (H : FuncId → Hints) (f : FuncId) (nm : List (List Nat)) (n : Nat) (J : List Nat × (St m) → Option ((SV m) × List (List (SV m)))) (x : List Nat × (St m)) : Option ((SV m) × List (List (SV m))) :=
  codeN P D ((H f).fit (fnOf P f).ntmps) nm J x.1.reverse (blkAt 0 (bodyOf P f) x.1) (sub (bodyOf P f) x.1) x.2 (contN P D ((H f).fit (fnOf P f).ntmps) nm J [] 0 (bodyOf P f) x.1 (endK2 P (fnOf P f) n))
theorem nameF_eq {P : Program} {D : (Oracle m)} {H : FuncId → Hints} {f : FuncId} {n : Nat} {J : List Nat × (St m) → Option ((SV m) × List (List (SV m)))} (hJ : ∀ p s, J (p, s) = atF P D H f p n s) (nm : List (List Nat)) (x : List Nat × (St m)) :
    J x = nameF P D H f nm n J x := by
  obtain ⟨p, s⟩ := x
  rw [hJ]
  unfold nameF atF
  rw [contN_eq (root := bodyOf P f) (fun p s => hJ p s) _ _ _ _ _ (by simp [sub]) (by simp [blkAt]) (by simp [contK])]
  exact (codeN_eq (root := bodyOf P f) (fun p s => hJ p s) _ _ _ _ _ (by simp) (by simp) (by simp)).symm
end Go.Vs
namespace Go.Vs
theorem run_names {m : Bool} {P : Program} {D : (Oracle m)} {H : FuncId → Hints} {f : FuncId} {args : List (SV m)} {boxes : List (List (SV m))} {J : List Nat × (St m) → Option ((SV m) × List (List (SV m)))}
    {nb : Nat} (hb : ((P.funcs[f]?).bind (·.body)).isSome = true) (hJ : ∀ p s, J (p, s) = atF P D H f p nb s) (nm : List (List Nat)) (hnb : boxes.length = nb := by rfl) :
    run2V P D H limR f args boxes = nameF P D H f nm nb J ([], St.freeze (fnOf P f).ntmps (enterV (fnOf P f) args boxes) ((H f).fz 1048576)) := by
  subst hnb
  rw [← nameF_eq hJ, hJ]
  unfold run2V atF fnOf bodyOf
  cases hfn : P.funcs[f]? with
  | none => rw [hfn] at hb; simp at hb
  | some fn =>
    rw [hfn] at hb
    simp only [Option.bind_some] at hb
    cases hc : fn.body with
    | none => rw [hc] at hb; simp at hb
    | some c => simp [sub, blkAt, contK, hc]
def anyS {m : Bool} (n : Nat) : List (SV m) := List.replicate n .any
def noB {m : Bool} (n : Nat) : List (Option (List (SV m))) := List.replicate n none
end Go.Vs
end
section
namespace Go.Vs
namespace F
abbrev laws_FnExactPartsBy := 4
abbrev spec_PartsBy := 9
abbrev impl_PartsBy := 10
abbrev laws_eqStringS := 11
abbrev laws_markStringS := 12
abbrev laws_heldStringS := 13
abbrev spec_l33Lines := 17
abbrev strings_Split := 18
abbrev strings_Join := 19
abbrev laws_markText := 20
end F
namespace T
abbrev uint8 := 5
abbrev string := 9
end T
end Go.Vs
end
section
open Go Go.Vs Go.Proofs
namespace Go.Vs
def Hs : FuncId → Hints := fun f => match f with
  | 4 => Tab.hints ⟨[[],[],[],[1,2],[1,2],[],[],[],[],[],[],[],[],[],[],[1,2],[0,1],[],[],[0]],[[],[],[],[],[],[],[],[],[2],[],[2],[],[],[],[],[],[],[],[],[2]],[],[],[],[[2],[8,9],[],[11,12],[13,14],[15,16,17],[],[],[19,20,21],[],[22,23,24],[25],[],[6,27,28],[],[0,30,31],[3,7,32,33,34],[],[],[4,36,37,38],[39],[],[5,6,41,42]],[],[(10,[10,0],[]),(18,[18,4,3,0],[]),(26,[26,0,3,5,4,6],[]),(29,[29,4,5,3,0],[]),(35,[35,5,4],[]),(40,[40,5,6],[]),(43,[43],[])],[(10,[10],[]),(18,[18],[]),(26,[26],[]),(29,[29],[]),(35,[35],[]),(40,[40],[]),(43,[43],[])],[]⟩
  | 9 => Tab.hints ⟨[[0],[1],[1],[],[1,2],[],[],[],[],[0,1,5],[1],[],[],[0,3],[0,6],[],[0,1,5]],[],[],[(0,[0,1,2,8,9,10,11,12,13,14,15,16,17,18,19,20,21,22,23,24,25,26,27,28,29,30,31,32,33,34,35,36,37,38,39,40,41,42,43,44])],[],[[2],[8],[9],[],[0,10,11],[],[12,13,14],[16,17],[18,19,20,21],[4,23,24,25,26,27],[28],[],[5,29],[31,32,33],[34,35,36,37,38,39],[],[3,4,40,41,42,43,44]],[],[(15,[15],[]),(22,[22,5],[]),(30,[30],[])],[(15,[15,5,7,6],[]),(22,[22],[]),(30,[30],[])],[]⟩
  | 10 => Tab.hints ⟨[[0],[1],[1],[1],[],[],[],[0,1,5],[0],[0,4],[],[0,1,5]],[],[],[(0,[0,1,2,5,6,7,8,9,13,14,15,16,17,18,19,20,21,22,23,24,25,26,27,28,29,30,31,32])],[],[[2],[7],[8],[0,9],[],[14,15],[16],[4,18,19,20,21,22],[],[6,23,24,25,26],[27],[3,4,28,29,30,31,32]],[],[(13,[13],[]),(17,[17,6],[])],[(13,[13,12,10,11],[]),(17,[17],[])],[]⟩
  | 11 => Tab.hints ⟨[],[],[],[(0,[2,3,4,6,7,8,9,10,11,12,13,14,15,16,17,18,19,20,21,22,23,24,25])],[],[[4],[6,7,8,9],[],[],[11,12,13],[15,16],[17,18,19,20,21,22,23,24]],[],[(10,[10,0,1],[]),(14,[14],[]),(25,[25,0,1,5],[])],[(10,[10],[]),(14,[14,0,1,5],[]),(25,[25],[])],[]⟩
  | 12 => Tab.hints ⟨[],[],[],[(0,[2,3,4,6,7,8,9,10,11,12,13,14,15,16,17,18,19])],[],[[4],[],[6,7,8],[10,11],[12,13,14,15,16],[17,18],[1,19]],[],[(9,[9],[])],[(9,[9,5,0],[])],[]⟩
  | 13 => Tab.hints ⟨[],[],[],[(0,[2,3,4,6,7,8,9,10,11,12,13,14,15,16,17,18,19,20,21])],[],[[4],[],[6,7,8],[10,11],[12,13,14,15,16,17],[],[19,20],[1,21]],[],[(9,[9],[]),(18,[18,0,5,1],[])],[(9,[9,0,5],[]),(18,[18],[])],[]⟩
  | 17 => Tab.hints ⟨[[0],[1],[],[],[],[],[],[0,7],[],[0,1]],[],[],[(0,[1,2,6,7,8,9,10,11,12,13,14,15,16,17,18,19,20,21,22,23,24,25,26,27,28,29,30,31,32])],[],[[2],[6],[],[],[7,8,9],[11,12],[13,14,15,16,17,18,19,20,21],[4,23,24,25,26,27,28,29],[30,31],[3,32]],[],[(10,[10],[]),(22,[22],[])],[(10,[10,4,5,0],[]),(22,[22],[])],[]⟩
  | 20 => Tab.hints ⟨[],[],[],[(0,[1,2,4,5,6,7,8,9,10,11,12,13,14,15,16,17,18,19])],[],[[2],[4],[],[],[6],[8,9,10,11,12,13,14,15],[16,17],[3,18,19]],[],[(5,[5,0],[]),(7,[7],[])],[(5,[5],[]),(7,[7,0],[])],[]⟩
  | _ => Tab.hints noTab
end Go.Vs
end
