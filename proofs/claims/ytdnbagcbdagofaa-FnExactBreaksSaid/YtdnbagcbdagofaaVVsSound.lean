/- One operation: what the shadow runner says of it is so on the machine. -/
import Derived.Test.YtdnbagcbdagofaaVVsBox
namespace Go.Vs
variable {m : Bool}
variable {P : Program} {N : Env}

/-- Behind a step: the frame is told by s' again. -/
def Step (P : Program) (N : Env) (nt : Nat) (s' : (St m)) (a : Act) (w : World) (F : Fr) (Ow : Own) (bm : Nat → Nat) (a' : Act) (w' : World) : Prop :=
  ∃ F' Ow' bm', Inv P s' a'.tmps w' F' N Ow' bm' ∧ Far N w F Ow w' F' Ow' ∧ (∀ b, nt ≤ b → bm' b = bm b) ∧ a'.defers = a.defers

/-- What a function is told to do, it does. -/
def DSound (P : Program) (D : (Oracle m)) : Prop := ∀ (N : Env) (f : FuncId) (args : List (SV m)) (boxes : List (List (SV m))) (r : (SV m) × List (List (SV m))), D f args boxes = some r → args.all SV.handed = true → (∀ c ∈ boxes, ∀ x ∈ c, x.flat = true) →
  r.2.length = boxes.length ∧ r.1.flatT = true ∧ (∀ cs ∈ r.2, ∀ c ∈ cs, c.flat = true) ∧ (∃ fn, P.funcs[f]? = some fn ∧ (fn.name == "runtime.NumGoroutine") = false ∧ fn.body.isNone = false) ∧
  ∀ (w : World) (F : Fr) (Ow : Own) (bm : Nat → Nat) (vals : Array Value), Inv P { tmps := args, boxes := boxes.map some } vals w F N Ow bm →
    Calls P f vals w fun e w' => ∃ v F' Ow', e = .returned v ∧ Inv P { tmps := [r.1], boxes := r.2.map some } #[v] w' F' N Ow' bm ∧ Far N w F Ow w' F' Ow'

section
variable {s : (St m)} {a : Act} {w : World} {F : Fr} {Ow : Own} {bm : Nat → Nat} {nt : Nat}

theorem Inv.put (h : Inv P s a.tmps w F N Ow bm) {dst : Option Tmp} {v : (SV m)} {u : Value} (hv : ∀ d, dst = some d → RepS P w F N Ow bm s.al (.tmp d) v u) :
    Inv P (s.put dst v) (a.put dst u).tmps w F N Ow bm := by
  cases dst with
  | none => exact h
  | some d => exact h.set (hv d rfl)
theorem put_defers (dst : Option Tmp) (u : Value) : (a.put dst u).defers = a.defers := by cases dst <;> rfl
theorem app_put (dst : Option Tmp) (v : (SV m)) : (⟨dstE dst v, none⟩ : (Eff m)).app s = s.put dst v := by rw [put_eq]; rfl
theorem app_take (x : Operand) (dst : Option Tmp) (v : (SV m)) : (⟨takeE s.eval x ++ dstE dst v, none⟩ : (Eff m)).app s = (s.take x).put dst v := by
  rw [put_eq]; simp [St.take, St.takes, Eff.app, setAll_append]

/-- A value, and the world as it was. -/
theorem step_val (h : Inv P s a.tmps w F N Ow bm) {o : Oper} {next : Act → World → Prop} {Q : Exit → Act → World → Prop} {v : (SV m)} {z : Value} (hrun : (execOp a.eval o).run P w = .ok (.value z) w)
    (hv : ∀ loc, RepS P w F N Ow bm s.al loc v z) (hk : ∀ a' w', Step P N nt ((⟨dstE o.dst v, none⟩ : (Eff m)).app s) a w F Ow bm a' w' → next a' w') : o.wp P a w next Q := by
  unfold Oper.wp
  rw [hrun]
  exact hk _ _ ⟨F, Ow, bm, by rw [app_put]; exact h.put fun d _ => hv _, Far.refl _ _ _, fun _ _ => rfl, put_defers _ _⟩
theorem rep_of_leaf {loc : Loc} {v : (SV m)} {z : Value} (h : ∃ l, v = .leaf l ∧ RepL w F N l z) : RepS P w F N Ow bm s.al loc v z := by
  obtain ⟨l, rfl, hl⟩ := h; exact RepS.leaf hl
theorem rep_of_part {loc : Loc} {v : (SV m)} {z : Value} (h : (∃ l, v = .leaf l ∧ RepL w F N l z) ∨ ∃ ls us, v = .agg ls ∧ z = .agg us ∧ RepR w F N ls us.toList) : RepS P w F N Ow bm s.al loc v z := by
  rcases h with h | ⟨ls, us, rfl, rfl, hr⟩
  · exact rep_of_leaf h
  · exact RepS.agg hr

theorem far_moved (x : Operand) (to : Loc) : Far N w F Ow w F (moved x to Ow) := ⟨rfl, rfl, rfl, Nat.le_refl _, Keeps.refl _ _, fun _ _ hg => ⟨fun _ => rfl, rfl, moved_none hg⟩⟩

theorem retype_rep {Ow : Own} {al : Nat → Bool} {loc : Loc} {x : (SV m)} {v : Value} {t : TypeId} (h : RepS P w F N Ow bm al loc x v) : RepS P w F N Ow bm al loc (retype P t x) v := by
  unfold retype
  split
  · rcases (show RepO P w F N Ow loc none [] v from h) with ⟨rfl, _⟩ | ⟨g, cap, cur, e, i, vals, _, he, _⟩
    · exact RepS.own_nil
    · simp at he
  · exact h
theorem step_take (h : Inv P s a.tmps w F N Ow bm) (x : Operand) (dst : Option Tmp) (t : TypeId) : Step P N nt ((⟨takeE s.eval x ++ dstE dst (retype P t (s.eval x)), none⟩ : (Eff m)).app s) a w F Ow bm (a.put dst (a.eval x)) w := by
  rw [app_take]
  cases dst with
  | none => exact ⟨F, moved x (.blk 0) Ow, bm, (h.take rfl x (.blk 0)).1, far_moved _ _, fun _ _ => rfl, rfl⟩
  | some d =>
    obtain ⟨h1, h2⟩ := h.take (a := a) rfl x (.tmp d)
    have hal : (s.take x).al = s.al := by cases x <;> rfl
    exact ⟨F, moved x (.tmp d) Ow, bm, h1.set (by rw [hal]; exact retype_rep h2), far_moved _ _, fun _ _ => rfl, rfl⟩

theorem plain_rep {loc : Loc} {x : (SV m)} {v : Value} (h : RepS P w F N Ow bm s.al loc x v) (hx : x.plain = true) : plainV v = true ∧ v.cells = #[v] ∧ v.oneCell' = true := by
  unfold SV.plain at hx
  split at hx <;> try (simp at hx; done)
  all_goals
    simp only [RepS, RepF] at h
    cases h
    exact ⟨rfl, rfl, rfl⟩
/-- Where one writes, a number, a bool or a text is written. -/
theorem Inv.softStore {tmps : Array Value} (h : Inv P s tmps w F N Ow bm) {g j : Nat} {v u : Value} {w' : World} {cur : Array Value} {e : TypeId} (hZ : N.Z g = true) (hg : w.heap[g]? = some (.cells cur e (0, 0))) (hu : cur[j]? = some u) (pu : plainV u = true) (pv : plainV v = true)
    (hw : w' = w.setRow g (cur.toList.take j ++ [v] ++ cur.toList.drop (j + 1)).toArray) : Inv P s tmps w' F N Ow bm ∧ Far N w F Ow w' F Ow := by
  subst hw
  have hj : j < cur.size := (Array.getElem?_eq_some_iff.1 hu).1
  have hcl := Array.length_toList (xs := cur)
  have hset := setRow_heap w g cur (cur.toList.take j ++ [v] ++ cur.toList.drop (j + 1)).toArray e (0, 0) hg
  have hoth : ∀ k, k ≠ g → (w.setRow g (cur.toList.take j ++ [v] ++ cur.toList.drop (j + 1)).toArray).heap[k]? = w.heap[k]? := fun k hk => setRow_other w g k _ hk
  have hat : ∀ i, (cur.toList.take j ++ [v] ++ cur.toList.drop (j + 1))[i]? = if i = j then some v else cur[i]? := by
    intro i
    rw [List.append_assoc]
    by_cases hij : i < j
    · rw [List.getElem?_append_left (by rw [List.length_take]; omega), List.getElem?_take, if_pos hij, if_neg (by omega)]; simp
    · rw [List.getElem?_append_right (by rw [List.length_take]; omega), List.length_take, Nat.min_eq_left (by omega)]
      by_cases hi : i = j
      · subst hi; simp
      · rw [if_neg hi, List.getElem?_append_right (by simp; omega), List.getElem?_drop]
        simp only [List.length_singleton]
        rw [show j + 1 + (i - j - 1) = i by omega]; simp
  have hk : Keeps N w F (w.setRow g (cur.toList.take j ++ [v] ++ cur.toList.drop (j + 1)).toArray) F := by
    refine ⟨fun k i _ hz => ?_, fun k i x hi hx => ?_, fun _ => Nat.le_refl _⟩
    · have : k ≠ g := by rintro rfl; rw [hZ] at hz; simp at hz
      simp only [World.cell?, hoth k this]
    · by_cases hkg : k = g
      · subst hkg
        rw [cell_in hg] at hx
        rw [cell_in hset]
        by_cases hij : i = j
        · subst hij
          rw [hu] at hx; cases hx
          exact ⟨v, by simpa using (hat i).trans (if_pos rfl), .inr ⟨pu, pv⟩⟩
        · exact ⟨x, by have := (hat i).trans (if_neg hij); simpa using this.trans hx, .inl rfl⟩
      · exact ⟨x, by simpa only [World.cell?, hoth k hkg] using hx, .inl rfl⟩
  refine ⟨h.to hk (Nat.le_of_eq (by simp)) (fun _ _ => rfl) (fun k loc hk' _ => ?_) (fun k hk' => h.new k (by simpa using hk')) (fun k hz => ⟨(h.zow k hz).1, ?_⟩), ⟨rfl, rfl, rfl, Nat.le_of_eq (by simp), hk, fun k _ ho => ⟨fun hz => ?_, rfl, ho⟩⟩⟩
  · have : k ≠ g := by rintro rfl; rw [(h.zow k hZ).1] at hk'; simp at hk'
    exact ⟨hoth k this, rfl, hk'⟩
  · by_cases hkg : k = g
    · subst hkg; exact ⟨_, _, hset⟩
    · rw [hoth k hkg]; exact (h.zow k hz).2
  · have : k ≠ g := by rintro rfl; rw [hZ] at hz; simp at hz
    exact hoth k this

/-- A part of a box. -/
theorem box_cells {b : Nat} {cs : List (SV m)} (h : Inv P s a.tmps w F N Ow bm) (hb : boxAt s.boxes b = some cs) {p n : Nat} {l : List (Leaf m)} (hle : p + n ≤ cs.length) (hl : asLeaves ((cs.drop p).take n) = some l) :
    ∃ cur e, w.heap[bm b]? = some (.cells cur e (0, 0)) ∧ cur.size = cs.length ∧ RepR w F N l ((cur.toList.drop p).take n) := by
  obtain ⟨cur, e, h1, h2, h3, h4, h5⟩ := h.box b cs hb
  refine ⟨cur, e, h1, h2, ?_⟩
  have := Array.length_toList (xs := cur)
  refine asLeaves_rep (P := P) (Ow := Ow) (bm := bm) (al := s.al) ((cs.drop p).take n) _ l (fun j => .box b (p + j)) hl (by simp; omega) fun j c u hc hu => ?_
  rw [List.getElem?_take] at hc hu
  split at hc
  · rename_i hj
    simp only [hj, if_true] at hu
    rw [List.getElem?_drop] at hc hu
    exact h5 (p + j) c u hc (by simpa using hu)
  · simp at hc

theorem load_cells_run {t : TypeId} {g p n : Nat} {cur : Array Value} {e : TypeId} {z : Nat × Nat} (hg : w.heap[g]? = some (.cells cur e z)) (ha : isAggT P t = true) (hn : sizeT P t = some n) (hle : p + n ≤ cur.size) :
    (Instr.loadAt t (.pointer (some ⟨g, p, none⟩))).run P w = .ok (.agg ((cur.toList.drop p).take n).toArray) w := by
  obtain ⟨d, i, hd, hi, rfl⟩ := sizeT_eq hn
  rw [isAggT_eq hd] at ha
  have := Array.length_toList (xs := cur)
  have hl := run_loadCells_list (P := P) w ⟨g, p, none⟩ ((cur.toList.drop p).take i.size) (fun j v hj => by
    rw [List.getElem?_take] at hj
    split at hj
    · rw [List.getElem?_drop] at hj
      rw [addr_add, cell_in hg]
      simpa using hj
    · simp at hj)
  have hlen : ((cur.toList.drop p).take i.size).length = i.size := by simp; omega
  rw [hlen] at hl
  simp [Instr.loadAt, Instr.sureAddr, loadVar, isAgg_run hd, ha, sizeOf_run hi, hl]
theorem load_cell_run {t : TypeId} {g p : Nat} {cur : Array Value} {e : TypeId} {z : Nat × Nat} {u : Value} {d : TypeDesc} (hg : w.heap[g]? = some (.cells cur e z)) (hd : P.underlying t = some d) (ha : isAggT P t = false) (hu : cur[p]? = some u) :
    (Instr.loadAt t (.pointer (some ⟨g, p, none⟩))).run P w = .ok u w := by
  rw [isAggT_eq hd] at ha
  have hc : w.cell? ⟨g, p, none⟩ = some u := by rw [cell_in hg]; exact hu
  simp [Instr.loadAt, Instr.sureAddr, loadVar, isAgg_run hd, ha, hc]
theorem ptr_eq {loc : Loc} {b p : Nat} {z : Value} (h : RepS (m := m) P w F N Ow bm s.al loc (.ptr b p) z) : z = .pointer (some ⟨bm b, p, none⟩) ∧ s.al b = true := by simpa only [RepS, RepF] using h
theorem isAgg_desc {t : TypeId} (h : isAggT P t = false) : ∃ d, P.underlying t = some d := by
  cases hd : P.underlying t with
  | none => simp [isAggT, hd] at h
  | some d => exact ⟨d, rfl⟩

theorem sound_load (h : Inv P s a.tmps w F N Ow bm) {o : Oper} {mv : Bool} {t : TypeId} {x : Operand} {e : (Eff m)} {D : (Oracle m)} {pu ta : Bool} (ho : o.op = .load t x) (he : effO P D nt mv pu ta o s.eval s.boxes = some e)
    {next : Act → World → Prop} {Q : Exit → Act → World → Prop} (hk : ∀ a' w', Step P N nt (e.app s) a w F Ow bm a' w' → next a' w') : o.wp P a w next Q := by
  simp only [effO, ho] at he
  have hx := h.eval (a := a) rfl x
  split at he
  · rename_i fc el p hxe
    rw [Option.map_eq_some_iff] at he
    obtain ⟨v, hv, rfl⟩ := he
    rw [hxe] at hx
    obtain ⟨g, q, vals, hz, hle, hso, hr, hc⟩ : ∃ g q vals, a.eval x = .pointer (some ⟨g, q + p, none⟩) ∧ q + el.length ≤ F g ∧ ((fc.isSoft = true → N.Z g = true) ∧ (N.Z g = true → ∀ l ∈ el, l.soft = true)) ∧ RepR w F N el vals ∧ ∀ (j : Nat) (u : Value), vals[j]? = some u → w.cell? ⟨g, q + j, none⟩ = some u := by simpa only [RepS, RepF] using hx
    obtain ⟨z, hrun, hrep⟩ := loadL_run (P := P) hv hr hc
    exact step_val h (z := z) (v := v) (by simp [execOp, ho, hz, hrun]) (fun _ => rep_of_part hrep) hk
  · rename_i b p hxe
    rw [hxe] at hx
    obtain ⟨hz, hal⟩ := ptr_eq hx
    rw [Option.bind_eq_some_iff] at he
    obtain ⟨cs, hb, he⟩ := he
    split at he
    · rename_i ha
      rw [Option.bind_eq_some_iff] at he
      obtain ⟨n, hn, he⟩ := he
      split at he
      · rename_i hle
        rw [Option.map_eq_some_iff] at he
        obtain ⟨l, hl, rfl⟩ := he
        obtain ⟨cur, et, hg, hcs, hr⟩ := box_cells h hb hle hl
        have hrun := load_cells_run (n := n) (p := p) hg ha hn (by omega)
        exact step_val h (z := .agg ((cur.toList.drop p).take n).toArray) (v := .agg l) (by simp [execOp, ho, hz, hrun]) (fun _ => RepS.agg (by simpa using hr)) hk
      · simp at he
    · rename_i ha
      have ha' : isAggT P t = false := by simpa using ha
      obtain ⟨d, hd⟩ := isAgg_desc ha'
      rw [Option.map_eq_some_iff] at he
      obtain ⟨c, hc, he⟩ := he
      split at he
      · subst he
        cases hdst : o.dst with
        | none =>
          obtain ⟨Ow', h1, h2, cur, et, u, hg, hu, hs, hr⟩ := h.takeBox hb hc (.blk 0)
          have hrun : (execOp a.eval o).run P w = .ok (.value u) w := by simp [execOp, ho, hz, load_cell_run hg hd ha' hu]
          unfold Oper.wp
          rw [hrun]
          refine hk _ _ ⟨F, Ow', bm, ?_, h2, fun _ _ => rfl, put_defers _ _⟩
          rw [hdst]
          exact h1
        | some dd =>
          obtain ⟨Ow', h1, h2, cur, et, u, hg, hu, hs, hr⟩ := h.takeBox hb hc (.tmp dd)
          have hrun : (execOp a.eval o).run P w = .ok (.value u) w := by simp [execOp, ho, hz, load_cell_run hg hd ha' hu]
          unfold Oper.wp
          rw [hrun]
          refine hk _ _ ⟨F, Ow', bm, ?_, h2, fun _ _ => rfl, put_defers _ _⟩
          rw [hdst]
          refine h1.set (d := dd) (v := c) (u := u) (hr.to (Keeps.refl _ _) (fun b' hb' => ⟨rfl, ?_⟩) fun _ g hg => ⟨rfl, rfl, hg⟩)
          show (boxAt (s.boxes.set b (some (cs.set p c.drop))) b').isSome = true
          by_cases hbb : b' = b
          · subst hbb; rw [boxAt_set_self (boxAt_lt hb)]; rfl
          · rw [boxAt_set_ne hbb]; exact hb'
      · subst he
        obtain ⟨cur, et, h1, h2, h3, h4, h5⟩ := h.box b cs hb
        have hp : p < cs.length := (List.getElem?_eq_some_iff.1 hc).1
        have hu : cur[p]? = some cur[p] := by simp
        exact step_val h (z := cur[p]) (v := c.drop) (by simp [execOp, ho, hz, load_cell_run h1 hd ha' hu]) (fun _ => RepS.drop (h5 p c _ hc hu)) hk
  · simp at he

theorem mem_takes (x : Operand) : (s.take x).boxes = s.boxes := by cases x <;> rfl

theorem sound_store (h : Inv P s a.tmps w F N Ow bm) {o : Oper} {mv : Bool} {t : TypeId} {x y : Operand} {e : (Eff m)} {D : (Oracle m)} {pu ta : Bool} (ho : o.op = .store t x y) (he : effO P D nt mv pu ta o s.eval s.boxes = some e)
    {next : Act → World → Prop} {Q : Exit → Act → World → Prop} (hk : ∀ a' w', Step P N nt (e.app s) a w F Ow bm a' w' → next a' w') : o.wp P a w next Q := by
  simp only [effO, ho] at he
  have hx := h.eval (a := a) rfl x
  split at he
  · rename_i fc el p hxe
    rw [hxe] at hx
    split at he
    · rename_i hcnd
      obtain ⟨⟨hsf, hsa⟩, hpl, hst⟩ := hcnd
      simp only [Option.map_some, Option.some.injEq] at he
      subst he
      obtain ⟨g, q, vals, hz, hle, hso, hr, hc⟩ : ∃ g q vals, a.eval x = .pointer (some ⟨g, q + p, none⟩) ∧ q + el.length ≤ F g ∧ ((fc.isSoft = true → N.Z g = true) ∧ (N.Z g = true → ∀ l ∈ el, l.soft = true)) ∧ RepR w F N el vals ∧ ∀ (j : Nat) (u : Value), vals[j]? = some u → w.cell? ⟨g, q + j, none⟩ = some u := by simpa only [RepS, RepF] using hx
      have hZ := hso.1 hsf
      obtain ⟨pv, hvc, hone⟩ := plain_rep (h.eval (a := a) rfl y) hpl
      obtain ⟨_, cur, et, hg⟩ := h.zow g hZ
      have hep : el[p]? = some .unk := by
        unfold softAt at hsa
        split at hsa
        · assumption
        · simp at hsa
      obtain ⟨u, hu, hru⟩ := hr.get hep
      have hcu := hc _ _ hu
      rw [cell_in hg] at hcu
      have pu : plainV u = true := by cases hru; assumption
      have hlt : q + p < cur.size := (Array.getElem?_eq_some_iff.1 hcu).1
      obtain ⟨d, i, hd, hi, hi1⟩ := sizeT_eq hst
      have hst := run_storeCells_at P g (q + p) et [a.eval y] 0 cur w hg (by simp; omega) (by simpa using hone)
      obtain ⟨k1, k2⟩ := h.softStore hZ hg hcu pu pv rfl
      have hrun : (execOp a.eval o).run P w = .ok .skip (w.setRow g (cur.toList.take (q + p) ++ [a.eval y] ++ cur.toList.drop (q + p + 1)).toArray) := by
        simp only [Nat.add_zero, List.length_singleton] at hst
        simp [execOp, ho, hz, Instr.storeAt, Instr.sureAddr, storeVar, sizeOf_run hi, hvc, hi1, hst]
      unfold Oper.wp
      rw [hrun]
      refine hk _ _ ⟨F, Ow, bm, ?_, k2, fun _ _ => rfl, put_defers _ _⟩
      rw [app_put]
      exact Inv.put (a := a) k1 fun d _ => by simp only [RepS, RepF]
    · simp at he
  · rename_i b p hxe
    rw [hxe] at hx
    obtain ⟨hz, hal⟩ := ptr_eq hx
    rw [Option.bind_eq_some_iff] at he
    obtain ⟨cs, hb, he⟩ := he
    rw [Option.bind_eq_some_iff] at he
    obtain ⟨n, hn, he⟩ := he
    obtain ⟨hfl, he'⟩ := guarded_eq he
    clear he
    split at he'
    · rename_i hc
      obtain ⟨hc1, hc2⟩ := hc
      simp only [Option.some.injEq] at he'
      subst he'
      obtain ⟨h1, h2⟩ := h.take (a := a) rfl y (.box b p)
      have hal' : (s.take y).al = s.al := by cases y <;> rfl
      have hbx : (s.take y).boxes = s.boxes := mem_takes y
      obtain ⟨hsz, hone, hcl⟩ := cells_rep (locf := fun j => .box b (p + j)) (by simp) h2 (by simp [hfl])
      obtain ⟨cur, et, g1, g2, g3, g4, g5⟩ := h1.box b cs (by rw [hbx]; exact hb)
      obtain ⟨d, i, hd, hi, rfl⟩ := sizeT_eq hn
      have hvl : (a.eval y).cells.toList.length = i.size := by rw [Array.length_toList]; omega
      have hst := run_storeCells_at P (bm b) p et (a.eval y).cells.toList 0 cur w g1 (by rw [hvl]; omega) hone
      have hrun : (execOp a.eval o).run P w = .ok .skip (w.setRow (bm b) (cur.toList.take p ++ (a.eval y).cells.toList ++ cur.toList.drop (p + i.size)).toArray) := by
        rw [Nat.add_zero, hvl] at hst
        simp [execOp, ho, hz, Instr.storeAt, Instr.sureAddr, storeVar, sizeOf_run hi, hsz, ← hc1, hst]
      have hcl2 := Array.length_toList (xs := cur)
      obtain ⟨k1, k2⟩ := h1.setBox (b := b) (cs := cs) (cs' := cs.take p ++ (s.eval y).cells ++ cs.drop (p + i.size)) (cur' := (cur.toList.take p ++ (a.eval y).cells.toList ++ cur.toList.drop (p + i.size)).toArray)
        (w' := w.setRow (bm b) (cur.toList.take p ++ (a.eval y).cells.toList ++ cur.toList.drop (p + i.size)).toArray) (by rw [hbx]; exact hb) g1
        (by simp only [List.size_toArray, List.length_append, List.length_take, List.length_drop, hvl, hcl2]; omega) (fun k hk => setRow_other w _ k _ hk) (setRow_heap w _ cur _ et _ g1) (by simp) rfl rfl rfl
        (fun j c u hj hu => by
          rw [hal']
          have hj0 : j < cs.length := by
            have := (List.getElem?_eq_some_iff.1 hj).1
            simp only [List.length_append, List.length_take, List.length_drop] at this
            omega
          rw [List.append_assoc] at hj
          have hu' : (cur.toList.take p ++ ((a.eval y).cells.toList ++ cur.toList.drop (p + i.size)))[j]? = some u := by simpa using hu
          by_cases hjp : j < p
          · rw [List.getElem?_append_left (by rw [List.length_take]; omega), List.getElem?_take, if_pos hjp] at hj
            rw [List.getElem?_append_left (by rw [List.length_take]; omega), List.getElem?_take, if_pos hjp] at hu'
            have := g5 j c u hj (by simpa using hu')
            simp only [hbx] at this
            exact this
          · rw [List.getElem?_append_right (by rw [List.length_take]; omega), List.length_take, Nat.min_eq_left (by omega)] at hj
            rw [List.getElem?_append_right (by rw [List.length_take]; omega), List.length_take, Nat.min_eq_left (by omega)] at hu'
            by_cases hjn : j - p < i.size
            · rw [List.getElem?_append_left (by omega)] at hj
              rw [List.getElem?_append_left (by omega)] at hu'
              have := hcl (j - p) c u hj (by simpa using hu')
              rwa [show p + (j - p) = j by omega] at this
            · rw [List.getElem?_append_right (by omega), List.getElem?_drop] at hj
              rw [List.getElem?_append_right (by omega), List.getElem?_drop, hvl] at hu'
              rw [show p + i.size + (j - p - (s.eval y).cells.length) = j by omega] at hj
              rw [show p + i.size + (j - p - i.size) = j by omega] at hu'
              have := g5 j c u hj (by simpa using hu')
              simp only [hbx] at this
              exact this)
      unfold Oper.wp
      rw [hrun]
      refine hk _ _ ⟨F, _, bm, ?_, (far_moved y (.box b p)).trans k2, fun _ _ => rfl, put_defers _ _⟩
      have : ((⟨takeE s.eval y ++ dstE o.dst .skip, some (s.boxes.set b (some (cs.take p ++ (s.eval y).cells ++ cs.drop (p + i.size))))⟩ : (Eff m)).app s) =
          ({ (s.take y) with boxes := (s.take y).boxes.set b (some (cs.take p ++ (s.eval y).cells ++ cs.drop (p + i.size))) } : (St m)).put o.dst .skip := by
        rw [put_eq]
        cases y <;> simp [St.take, St.takes, Eff.app, setAll_append]
      rw [this]
      exact Inv.put (a := a) k1 fun d _ => by simp only [RepS, RepF]
    · simp at he'
  · simp at he
end
end Go.Vs
