/- One operation, continued: boxes that are made, values, slices that grow. -/
import Derived.Test.YtdnbagcbdagofaaVVsSound
import Derived.Laws.MakeOwn
set_option linter.unusedVariables false
set_option linter.unusedSimpArgs false
namespace Go.Vs
variable {m : Bool}
variable {P : Program} {N : Env}
section
variable {s : (St m)} {a : Act} {w : World} {F : Fr} {Ow : Own} {bm : Nat → Nat} {nt : Nat}

theorem Inv.newBox {tmps : Array Value} (h : Inv P s tmps w F N Ow bm) {d : Nat} (hd : boxAt s.boxes d = none) {cells : Array Value} (t : TypeId) {cs : List (SV m)} (hs : cells.size = cs.length)
    (hr : ∀ (j : Nat) (c : (SV m)) (u : Value), cs[j]? = some c → cells[j]? = some u → RepS P w F N Ow bm s.al (.box d j) c u) :
    ∃ Ow', Inv P { s with boxes := s.boxes.set d (some cs) } tmps (w.alloc (.cells cells t)) F N Ow' (fun b => if b = d then w.heap.size else bm b) ∧ Far N w F Ow (w.alloc (.cells cells t)) F Ow' := by
  obtain ⟨W, hsz, hnew⟩ := wrote_new (F := F) (w := w) (o := .cells cells t) (h.new _ (Nat.le_refl _)).1 (.inl rfl)
  have hk : Keeps N w F (w.alloc (.cells cells t)) F := by
    refine .mk' (fun k j hj => ?_) fun _ => Nat.le_refl _
    by_cases hks : k < w.heap.size
    · simp only [World.cell?, W.block k hks (by omega)]
    · rw [(h.new k (by omega)).1] at hj; omega
  have hlt : ∀ k loc, Ow k = some loc → k < w.heap.size := by
    intro k loc hk'
    rcases Nat.lt_or_ge k w.heap.size with h' | h'
    · exact h'
    · rw [(h.new k h').2] at hk'; simp at hk'
  have hbm : ∀ b, s.al b = true → (if b = d then w.heap.size else bm b) = bm b := by
    intro b hb
    rw [if_neg]
    rintro rfl
    simp [St.al, hd] at hb
  let Ow' : Own := fun k => if k = w.heap.size then some (.blk d) else Ow k
  have ho : ∀ k loc, Ow k = some loc → (w.alloc (.cells cells t)).heap[k]? = w.heap[k]? ∧ F k = F k ∧ Ow' k = some loc := by
    intro k loc hk'
    have := hlt k loc hk'
    exact ⟨W.block k this (by omega), rfl, by simp [Ow', show k ≠ w.heap.size by omega, hk']⟩
  have h1 := h.to (w' := w.alloc (.cells cells t)) (F' := F) (Ow' := Ow') (bm' := fun b => if b = d then w.heap.size else bm b) hk W.size hbm (fun k loc hk' _ => ho k loc hk') (fun k hk' => by
    have := h.new k (by omega)
    exact ⟨this.1, by simp [Ow', show k ≠ w.heap.size by omega, this.2]⟩) (fun k hz => by
    have hks := Nat.lt_of_lt_of_le (N.lt k hz) h.low
    exact ⟨by simp [Ow', show k ≠ w.heap.size by omega, (h.zow k hz).1], by rw [W.block k hks (by omega)]; exact (h.zow k hz).2⟩)
  have h2 := h1.addBox (d := d) (cs := cs) (cur := cells) (e := t) hd (by simpa using hnew) hs (by simpa using (h.new _ (Nat.le_refl _)).1) (by simp [Ow']) (by simpa using h.low) (fun j c u hc hu => by
    exact (hr j c u hc hu).to hk (fun b hb => ⟨hbm b hb, hb⟩) fun _ k hk' => ho k _ hk')
  exact ⟨Ow', h2, ⟨W.os, W.tape, W.output, W.size, hk, fun k hks hko => ⟨fun _ => W.block k hks (by omega), rfl, by simp [Ow', show k ≠ w.heap.size by omega, hko]⟩⟩⟩

theorem sound_box (h : Inv P s a.tmps w F N Ow bm) (hnt : nt ≤ s.boxes.length) {o : Oper} {mv : Bool} {t : TypeId} {x : Operand} {e : (Eff m)} {D : (Oracle m)} {pu ta : Bool} (ho : o.op = .box t x) (he : effO P D nt mv pu ta o s.eval s.boxes = some e)
    {next : Act → World → Prop} {Q : Exit → Act → World → Prop} (hk : ∀ a' w', Step P N nt (e.app s) a w F Ow bm a' w' → next a' w') : o.wp P a w next Q := by
  simp only [effO, ho] at he
  split at he
  · rename_i d hdst
    split at he
    · rename_i hb
      obtain ⟨hg, he'⟩ := guarded_eq he
      clear he
      simp only [Option.some.injEq] at he'
      subst he'
      simp only [Bool.and_eq_true, decide_eq_true_eq] at hg
      have hd : (d : Nat) < nt := hg.1
      obtain ⟨h1, h2⟩ := h.take (a := a) rfl x (.box d 0)
      have hbx : (s.take x).boxes = s.boxes := mem_takes x
      obtain ⟨hsz, hone, hcl⟩ := cells_rep (locf := fun j => .box d j) rfl h2 hg.2
      obtain ⟨Ow', k1, k2⟩ := h1.newBox (d := d) (by rw [hbx]; exact hb) t hsz (fun j c u hc hu => by
        have hal : (s.take x).al = s.al := by cases x <;> rfl
        rw [hal]; exact hcl j c u hc hu)
      have hrun : (execOp a.eval o).run P w = .ok (.value (.pointer (some ⟨w.heap.size, 0, none⟩))) (w.alloc (.cells (a.eval x).cells t)) := by
        simp [execOp, ho, Instr.box, newVar, newRow]
      unfold Oper.wp
      rw [hrun]
      refine hk _ _ ⟨F, Ow', fun b => if b = d then w.heap.size else bm b, ?_, (far_moved x _).trans k2, fun b hb' => if_neg (fun hbd : b = d => absurd hd (Nat.not_lt.2 (hbd ▸ hb'))), put_defers _ _⟩
      have : ((⟨takeE s.eval x ++ [(d, .ptr d 0)], some (s.boxes.set d (some (s.eval x).cells))⟩ : (Eff m)).app s) = ({ (s.take x) with boxes := (s.take x).boxes.set d (some (s.eval x).cells) } : (St m)).put (some d) (.ptr d 0) := by
        rw [put_eq]
        cases x <;> simp [St.take, St.takes, Eff.app, setAll_append, dstE]
      rw [this, hdst]
      refine Inv.put (a := a) k1 fun dd hdd => ?_
      simp only [RepS, RepF]
      refine ⟨by simp, ?_⟩
      show (boxAt ((s.take x).boxes.set d (some (s.eval x).cells)) d).isSome = true
      rw [boxAt_set_self (by rw [hbx]; exact Nat.lt_of_lt_of_le hd hnt)]; rfl
    · simp at he
  · simp at he

theorem newCells_length {t : TypeId} : ∀ (j : Nat) (ls : List (Leaf m)), (newCells P t j ls).length = ls.length
  | _, [] => rfl
  | j, l :: ls => by simp [newCells, newCells_length (j + 1) ls]
theorem zeros_rep {t : TypeId} : ∀ (vs : List Value) (i : Nat) (loc : Nat → Loc) (ls : List (Leaf m)), leavesOfValues vs = some ls → ∀ (j : Nat) (c : (SV m)) (u : Value), (newCells P t i ls)[j]? = some c → vs[j]? = some u → RepS P w F N Ow bm s.al (loc j) c u := by
  intro vs
  induction vs with
  | nil => intro i loc ls h j c u hc hu; simp at hu
  | cons v vs ih =>
    intro i loc ls h j c u hc hu
    simp only [leavesOfValues] at h
    rw [Option.bind_eq_some_iff] at h
    obtain ⟨l, hl, h⟩ := h
    rw [Option.map_eq_some_iff] at h
    obtain ⟨ls', hls, rfl⟩ := h
    cases j with
    | succ j => exact ih (i + 1) (fun j => loc (j + 1)) ls' hls j c u (by simpa [newCells] using hc) (by simpa using hu)
    | zero =>
      simp [newCells] at hc hu
      subst hc hu
      unfold leafOfValue at hl
      split at hl <;> simp at hl <;> subst hl
      · exact RepS.leaf (.bool _)
      · exact RepS.leaf (.int _ _)
      · exact RepS.leaf (.str _)
      · exact RepS.own_nil

theorem sound_alloc (h : Inv P s a.tmps w F N Ow bm) (hnt : nt ≤ s.boxes.length) {o : Oper} {mv : Bool} {t : TypeId} {e : (Eff m)} {D : (Oracle m)} {pu ta : Bool} (ho : o.op = .alloc t) (he : effO P D nt mv pu ta o s.eval s.boxes = some e)
    {next : Act → World → Prop} {Q : Exit → Act → World → Prop} (hk : ∀ a' w', Step P N nt (e.app s) a w F Ow bm a' w' → next a' w') : o.wp P a w next Q := by
  simp only [effO, ho] at he
  split at he
  · rename_i d hdst
    split at he
    · rename_i hb
      obtain ⟨hg, he'⟩ := guarded_eq he
      clear he
      rw [Option.map_eq_some_iff] at he'
      obtain ⟨z, hz, rfl⟩ := he'
      have hd : (d : Nat) < nt := of_decide_eq_true hg
      obtain ⟨inf, zv, hinf, hzv, hzl⟩ := zeroLeaves_eq hz
      have hlen := (leavesOf_rep w F (N := N) _ _ hzl).1
      obtain ⟨Ow', k1, k2⟩ := h.newBox (d := d) (cells := zv.cells) (cs := newCells P t 0 z) hb t (by rw [newCells_length]; simpa using hlen) (fun j c u hc hu => zeros_rep _ 0 (fun j => .box d j) _ hzl j c u hc (by simpa using hu))
      have hrun : (execOp a.eval o).run P w = .ok (.value (.pointer (some ⟨w.heap.size, 0, none⟩))) (w.alloc (.cells zv.cells t)) := by
        simp [execOp, ho, Instr.alloc, zeroValue, typeInfo, hinf, hzv, newVar, newRow]
      unfold Oper.wp
      rw [hrun]
      refine hk _ _ ⟨F, Ow', fun b => if b = d then w.heap.size else bm b, ?_, k2, fun b hb' => if_neg (fun hbd : b = d => absurd hd (Nat.not_lt.2 (hbd ▸ hb'))), put_defers _ _⟩
      have : ((⟨[(d, .ptr d 0)], some (s.boxes.set d (some (newCells P t 0 z)))⟩ : (Eff m)).app s) = ({ s with boxes := s.boxes.set d (some (newCells P t 0 z)) } : (St m)).put (some d) (.ptr d 0) := by
        rw [put_eq]; rfl
      rw [this, hdst]
      refine Inv.put (a := a) k1 fun dd hdd => ?_
      simp only [RepS, RepF]
      refine ⟨by simp, ?_⟩
      show (boxAt (s.boxes.set d (some (newCells P t 0 z))) d).isSome = true
      rw [boxAt_set_self (Nat.lt_of_lt_of_le hd hnt)]; rfl
    · simp at he
  · simp at he

theorem flat_rep_get {α : Type} {ze : List α} : ∀ (n j : Nat), j < n * ze.length → (List.replicate n ze).flatten[j]? = ze[j % ze.length]?
  | 0, j, h => by omega
  | n + 1, j, h => by
    rw [List.replicate_succ, List.flatten_cons]
    by_cases hj : j < ze.length
    · rw [List.getElem?_append_left hj, Nat.mod_eq_of_lt hj]
    · have hmul : (n + 1) * ze.length = n * ze.length + ze.length := Nat.succ_mul _ _
      rw [List.getElem?_append_right (by omega), flat_rep_get n (j - ze.length) (by omega), ← Nat.mod_eq_sub_mod (by omega)]
theorem sound_make (h : Inv P s a.tmps w F N Ow bm) (hnt : nt ≤ s.boxes.length) {o : Oper} {mv : Bool} {t : TypeId} {x y : Operand} {e : (Eff m)} {D : (Oracle m)} {pu ta : Bool} (ho : o.op = .makeSlice t x y) (he : effO P D nt mv pu ta o s.eval s.boxes = some e)
    {next : Act → World → Prop} {Q : Exit → Act → World → Prop} (hk : ∀ a' w', Step P N nt (e.app s) a w F Ow bm a' w' → next a' w') : o.wp P a w next Q := by
  simp only [effO, ho] at he
  split at he
  · rename_i d hdst
    split at he
    · rename_i hb
      obtain ⟨hg, he'⟩ := guarded_eq he
      clear he
      rw [Option.map_eq_some_iff] at he'
      obtain ⟨⟨⟨z, n⟩, cs⟩, hp, rfl⟩ := he'
      have hd : (d : Nat) < nt := of_decide_eq_true hg
      unfold makeV at hp
      split at hp
      · rename_i k1 n1 k2 n2 ex ey
        rw [Option.bind_eq_some_iff] at hp
        obtain ⟨et, het, hp⟩ := hp
        rw [Option.bind_eq_some_iff] at hp
        obtain ⟨i, hi, hp⟩ := hp
        rw [Option.bind_eq_some_iff] at hp
        obtain ⟨ze, hze, hp⟩ := hp
        split at hp
        · rename_i hc
          obtain ⟨⟨h0, hab⟩, ⟨hi0, hby, hle⟩, hzl⟩ := hc
          subst hab
          simp only [Option.some.injEq, Prod.mk.injEq] at hp
          obtain ⟨⟨rfl, rfl⟩, rfl⟩ := hp
          obtain ⟨inf, zv, hinf, hzv, hlv⟩ := zeroLeaves_eq hze
          rw [hi] at hinf
          cases hinf
          have hrz := leavesOf_rep w F (N := N) _ _ hlv
          have hzs : zv.cells.size = i.size := by have := hrz.1; simp at this; omega
          have vx := repL_int ((h.eval (a := a) rfl x).leafOf _ (drop_leaf ex))
          have vy := repL_int ((h.eval (a := a) rfl y).leafOf _ (drop_leaf ey))
          have hmb : maxBytes = 140737488355328 := rfl
          have hrun0 := run_make (P := P) w t et i zv (elemT_eq het) hi hzv k1 k2 n1 n1 h0 (Int.le_refl _) (by
            have h1 : ((n1.toNat * i.bytes : Nat) : Int) ≤ 140737488355328 := by omega
            rw [Int.natCast_mul, Int.toNat_of_nonneg h0] at h1
            rw [Int.mul_comm]; omega) (by omega)
          have hlen : (List.replicate n1.toNat ze).flatten.length = n1.toNat * i.size := by
            simp [hzl]
          obtain ⟨Ow', q1, q2⟩ := h.newBox (d := d) (cells := madeCells zv.cells (n1.toNat * i.size)) (cs := (List.replicate n1.toNat ze).flatten.map .leaf) hb et
            (by rw [size_madeCells, List.length_map, hlen]) (fun j c u hc hu => by
              rw [List.getElem?_map, Option.map_eq_some_iff] at hc
              obtain ⟨l, hl, rfl⟩ := hc
              have hj : j < n1.toNat * i.size := by have := (List.getElem?_eq_some_iff.1 hl).1; omega
              rw [flat_rep_get _ _ (by rw [hzl]; exact hj), hzl] at hl
              have hjm : j % i.size < zv.cells.size := by rw [hzs]; exact Nat.mod_lt _ hi0
              have hu' : u = zv.cells[j % zv.cells.size]! := by simpa [madeCells, hj] using hu.symm
              rw [hzs] at hu'
              subst hu'
              refine RepS.leaf (hrz.2 (j % i.size) l _ hl ?_)
              simp [hjm])
          have hrun : (execOp a.eval o).run P w = .ok (.value (.slice (some ⟨w.heap.size, 0, none⟩) n1.toNat n1.toNat)) (w.alloc (.cells (madeCells zv.cells (n1.toNat * i.size)) et)) := by
            simp [execOp, ho, vx, vy, hrun0]
          unfold Oper.wp
          rw [hrun]
          refine hk _ _ ⟨F, Ow', fun b => if b = d then w.heap.size else bm b, ?_, q2, fun b hb' => if_neg (fun hbd : b = d => absurd hd (Nat.not_lt.2 (hbd ▸ hb'))), put_defers _ _⟩
          have : ((⟨[(d, .bsl d i.size 0 n1.toNat)], some (s.boxes.set d (some ((List.replicate n1.toNat ze).flatten.map .leaf)))⟩ : (Eff m)).app s) = ({ s with boxes := s.boxes.set d (some ((List.replicate n1.toNat ze).flatten.map .leaf)) } : (St m)).put (some d) (.bsl d i.size 0 n1.toNat) := by
            rw [put_eq]; rfl
          rw [this, hdst]
          refine Inv.put (a := a) q1 fun dd hdd => ?_
          simp only [RepS, RepF]
          refine ⟨n1.toNat, by simp, Nat.le_refl _, ?_⟩
          show (boxAt (s.boxes.set d (some ((List.replicate n1.toNat ze).flatten.map .leaf))) d).isSome = true
          rw [boxAt_set_self (Nat.lt_of_lt_of_le hd hnt)]; rfl
        · simp at hp
      · simp at hp
    · simp at he
  · simp at he

theorem parts_rep (h : Inv P s a.tmps w F N Ow bm) : ∀ (ps : List (Nat × Operand)), PartsR w F N (ps.map fun p => (p.1, s.eval p.2)) (ps.map fun p => (p.1, a.eval p.2))
  | [] => .nil
  | p :: ps => .cons (fun l hl => leaves_rep (h.eval rfl p.2) l hl) (parts_rep h ps)

/-- A new value that may be appended to goes into a slot. -/
theorem step_grown (h : Inv P s a.tmps w F N Ow bm) {s' : (St m)} {F0 : Fr} {Ow0 : Own} (h' : Inv P s' a.tmps w F N Ow0 bm) (hal : s'.al = s.al) (hf : Far N w F0 Ow w F Ow0) {dst : Option Tmp} {e : TypeId} {i : TypeInfo} {es : List (List (Leaf m))} {z : Value} {w' : World} {g : Nat} {loc : Loc}
    (hi : P.info? e = some i) (h0 : 0 < i.size) (G : Grew P w w' F N e i es z g) (hg : (Ow0 g = some loc ∧ ¬ s'.holds loc) ∨ g = w.heap.size) (hN : N.n ≤ g) :
    Step P N nt (s'.put dst (.own (some e) es)) a w F0 Ow bm (a.put dst z) w' := by
  obtain ⟨F', Ow', k1, k2, k3⟩ := h'.grown (to := .tmp (dst.getD 0)) hi h0 G hg hN
  refine ⟨F', Ow', bm, Inv.put (a := a) k1 fun d hd => ?_, hf.trans k2, fun _ _ => rfl, put_defers _ _⟩
  subst hd
  exact k3 _

theorem sound_buildSlice (h : Inv P s a.tmps w F N Ow bm) {o : Oper} {mv : Bool} {t : TypeId} {n : Nat} {parts : Array (Nat × Operand)} {e : (Eff m)} {D : (Oracle m)} {pu ta : Bool} (ho : o.op = .buildSlice t n parts) (he : effO P D nt mv pu ta o s.eval s.boxes = some e)
    {next : Act → World → Prop} {Q : Exit → Act → World → Prop} (hk : ∀ a' w', Step P N nt (e.app s) a w F Ow bm a' w' → next a' w') : o.wp P a w next Q := by
  simp only [effO, ho, Option.map_eq_some_iff] at he
  obtain ⟨v, hv, rfl⟩ := he
  obtain ⟨z, w', et, i, es, hrun, rfl, hi, h0, G⟩ := buildSliceV_run (N := N) (F := F) (w := w) (qs := parts.map fun p => (p.1, a.eval p.2)) (h.new _ (Nat.le_refl _)).1 hv (by simpa using parts_rep h parts.toList)
  have hr : (execOp a.eval o).run P w = .ok (.value z) w' := by
    simp only [execOp, ho]
    simp [hrun]
  unfold Oper.wp
  rw [hr]
  refine hk _ _ ?_
  rw [app_put]
  exact step_grown h h rfl (Far.refl _ _ _) (loc := .blk 0) hi h0 G (.inr rfl) h.low

theorem repS_of_F {loc : Loc} {x : (SV m)} {v : Value} (h : RepF w F N bm s.al x v) : RepS P w F N Ow bm s.al loc x.drop v := by
  cases x <;> first | exact h.elim | (simp only [SV.drop, RepS]; exact h)

theorem bound_rep (h : Inv P s a.tmps w F N Ow bm) {x : Option Operand} {l : Option Nat} (hl : optNat s.eval x = some l) : BoundV (x.map a.eval) l := by
  cases x with
  | none => simp [optNat] at hl; subst hl; exact .inl ⟨rfl, rfl⟩
  | some x =>
    simp only [optNat, Option.map_eq_some_iff] at hl
    obtain ⟨n, hn, rfl⟩ := hl
    obtain ⟨k, hk⟩ := natOf_int hn (fun l hl => (h.eval (a := a) rfl x).leafOf l (drop_leaf hl))
    exact .inr ⟨k, n, by simp [hk], rfl⟩

theorem not_holds_take {t : Tmp} : ¬ (s.take (.tmp t)).holds (.tmp t) := by
  rw [take_eq]
  show ¬ isOwn ((s.tmps.set t (s.tmps.getD t .any).drop).getD t .any) = true
  by_cases hl : t < s.tmps.length
  · rw [List.getD_eq_getElem?_getD, List.getElem?_set_self hl]; simp [drop_not_own]
  · rw [List.getD_eq_getElem?_getD, List.getElem?_eq_none (by simpa using hl)]; simp [isOwn]

theorem sound_append (h : Inv P s a.tmps w F N Ow bm) {o : Oper} {mv : Bool} {c : Call} {x y : Operand} {e : (Eff m)} {D : (Oracle m)} {pu ta : Bool} (ho : o.op = .call c) (hc : c.callee = .builtin .append) (hargs : c.args.toList = [x, y])
    (he : effO P D nt mv pu ta o s.eval s.boxes = some e) {next : Act → World → Prop} {Q : Exit → Act → World → Prop} (hk : ∀ a' w', Step P N nt (e.app s) a w F Ow bm a' w' → next a' w') : o.wp P a w next Q := by
  simp only [effO, ho, hc, hargs, Option.map_eq_some_iff] at he
  obtain ⟨v, hv, rfl⟩ := he
  have hargs' : c.args = #[x, y] := by rw [← hargs]
  unfold appendV at hv
  split at hv
  · rename_i t u eo es hat0 hxe
    have hat : c.argTypes = #[t, u] := by rw [← hat0]
    rw [Option.bind_eq_some_iff] at hv
    obtain ⟨et, het, hv⟩ := hv
    rw [Option.bind_eq_some_iff] at hv
    obtain ⟨i, hi, hv⟩ := hv
    obtain ⟨hgd, hv'⟩ := guarded_eq hv
    clear hv
    simp only [Bool.and_eq_true, beq_iff_eq, decide_eq_true_eq] at hgd
    obtain ⟨⟨⟨heo, h0⟩, hby⟩, hzs⟩ := hgd
    have htu := elemT_eq het
    have hx := h.eval (a := a) rfl x
    rw [hxe] at hx
    have hO : RepO P w F N Ow (locOf x) eo es (a.eval x) := hx
    have hy := h.eval (a := a) rfl y
    obtain ⟨h1, _⟩ := h.take (a := a) rfl x (locOf x)
    have hmv : moved x (locOf x) Ow = Ow := by
      cases x with
      | tmp t => funext g; simp only [moved, locOf]; split <;> simp_all
      | _ => rfl
    rw [hmv] at h1
    have hal : (s.take x).al = s.al := by cases x <;> rfl
    have fin : ∀ (fs' : List (List (Leaf m))) (z : Value) (w' : World), (execOp a.eval o).run P w = .ok (.value z) w' → ((z = .slice none 0 0 ∧ fs' = [] ∧ w' = w) ∨ ∃ g, Grew P w w' F N et i fs' z g ∧ N.n ≤ g ∧ ((Ow g = some (locOf x) ∧ (a.eval x).ownBlock = some g) ∨ g = w.heap.size)) →
        v = .own (some et) fs' → o.wp P a w next Q := by
      intro fs' z w' hrun hcase hve
      unfold Oper.wp
      rw [hrun]
      refine hk _ _ ?_
      rw [app_take, hve]
      rcases hcase with ⟨rfl, rfl, rfl⟩ | ⟨g, G, hN, hg⟩
      · exact ⟨F, Ow, bm, Inv.put (a := a) h1 fun d _ => RepS.own_nil, Far.refl _ _ _, fun _ _ => rfl, put_defers _ _⟩
      · cases x with
        | tmp t =>
          refine step_grown (s' := s.take (.tmp t)) (loc := .tmp t) h h1 hal (Far.refl _ _ _) hi h0 G ?_ hN
          rcases hg with ⟨hg, _⟩ | hg
          · exact .inl ⟨hg, not_holds_take⟩
          · exact .inr hg
        | const cv =>
          have hnil : a.eval (.const cv) = .slice none 0 0 ∧ es = [] := by
            simp only [St.eval] at hxe
            unfold ofConst at hxe
            split at hxe <;> simp at hxe
            obtain ⟨_, rfl⟩ := hxe
            exact ⟨rfl, rfl⟩
          rcases hg with ⟨_, hg⟩ | hg
          · rw [hnil.1] at hg
            simp [Value.ownBlock] at hg
          · exact step_grown (s' := s.take (.const cv)) (loc := .blk 0) h h1 hal (Far.refl _ _ _) hi h0 G (.inr hg) hN
        | global g' => simp [St.eval] at hxe
        | func f => simp [St.eval] at hxe
    split at hv'
    · rename_i e2 c2 fs hu hye
      split at hv'
      · rename_i hcond
        obtain ⟨htu2, hb⟩ := hcond
        subst htu2
        obtain ⟨hsz, hv2⟩ := guarded_eq hv'
        simp only [Option.some.injEq] at hv2
        obtain ⟨z, w', hrun, hcase⟩ := append_slice_run (ty := o.type) (fun g hg => (h.new g hg).1) h.low hO heo (hy.leafOf _ hye) htu hi hzs h0 hby (sized_mem hsz) hb
        exact fin (es ++ fs) z w' (by simp [execOp, ho, resolve, hc, invoke, builtin, hargs', hat, hrun]) hcase hv2.symm
      · simp at hv'
    · rename_i st hu hye
      split at hv'
      · rename_i hb
        obtain ⟨hzb, hv2⟩ := guarded_eq hv'
        simp only [Option.some.injEq] at hv2
        have hys := repL_str (hy.leafOf _ hye)
        obtain ⟨z, w', hrun, hcase⟩ := append_string_run (ty := o.type) (fun g hg => (h.new g hg).1) h.low hO heo htu hu hi hzb hb
        exact fin _ z w' (by simp [execOp, ho, resolve, hc, invoke, builtin, hargs', hat, hys, hrun]) hcase hv2.symm
      · simp at hv'
    · simp at hv'
  · simp at hv
end
end Go.Vs
