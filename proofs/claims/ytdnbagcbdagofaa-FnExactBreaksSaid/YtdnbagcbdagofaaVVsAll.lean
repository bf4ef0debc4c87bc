/- Each operation of the shadow runner is sound. -/
import Derived.Test.YtdnbagcbdagofaaVVsBack
namespace Go.Vs
variable {m : Bool}
variable {P : Program} {N : Env}
section
variable {s : (St m)} {a : Act} {w : World} {F : Fr} {Ow : Own} {bm : Nat → Nat} {nt : Nat}

theorem onBool_eq {β : Type} {v : (SV m)} {k : Bool → Option β} {y : β} (h : onBool v k = some y) : ∃ b, v = .leaf (.bool b) ∧ k b = some y := by
  unfold onBool at h
  split at h
  · exact ⟨_, rfl, h⟩
  · simp at h
theorem branch_eq {β : Type} (b : Bool) (x y : Option β) : branch b x y = if b then x else y := by cases b <;> rfl

theorem fieldT_eq {t : TypeId} {f : Nat} {p : Nat × TypeId} (h : fieldT P t f = some p) : ∃ fs fld, P.underlying t = some (.struct fs) ∧ fs[f]? = some fld ∧ p = (fld.offset, fld.type) := by
  unfold fieldT at h
  split at h
  · rename_i fs hu
    rw [Option.map_eq_some_iff] at h
    obtain ⟨fld, hf, rfl⟩ := h
    exact ⟨fs, fld, hu, hf, rfl⟩
  · simp at h

theorem fieldAddr_run {t : TypeId} {x v : (SV m)} {f : Nat} {u : Value} {loc : Loc} (h : fieldAddrV P t x f = some v) (hx : RepS P w F N Ow bm s.al loc x u) :
    ∃ z, (Instr.fieldAt t u f).run P w = .ok z w ∧ ∀ loc', RepS P w F N Ow bm s.al loc' v z := by
  unfold fieldAddrV at h
  rw [Option.bind_eq_some_iff] at h
  obtain ⟨p, hp, h⟩ := h
  obtain ⟨fs, fld, hu, hf, rfl⟩ := fieldT_eq hp
  rw [Option.bind_eq_some_iff] at h
  obtain ⟨n, hn, h⟩ := h
  obtain ⟨d, i, hd, hi, rfl⟩ := sizeT_eq hn
  split at h
  · simp at h
  · rename_i hnz
    have hrun : ∀ g q, (Instr.fieldAt t (.pointer (some ⟨g, q, none⟩)) f).run P w = .ok (.pointer (some ⟨g, q + fld.offset, none⟩)) w := by
      intro g q
      simp [Instr.fieldAt, run_underlying hu, hf, Instr.sureAddr, fieldPlace, sizeOf_run hi, hnz, addr_add]
    split at h
    · rename_i b q
      simp only [Option.some.injEq] at h; subst h
      have hx' : u = .pointer (some ⟨bm b, q, none⟩) ∧ s.al b = true := by simpa only [RepS, RepF] using hx
      obtain ⟨rfl, hal⟩ := hx'
      exact ⟨_, hrun _ _, fun loc' => by simp only [RepS, RepF]; exact ⟨trivial, hal⟩⟩
    · rename_i fc el q
      simp only [Option.some.injEq] at h; subst h
      have hx' : ∃ g p vals, u = .pointer (some ⟨g, p + q, none⟩) ∧ p + el.length ≤ F g ∧ ((fc.isSoft = true → N.Z g = true) ∧ (N.Z g = true → ∀ l ∈ el, l.soft = true)) ∧ RepR w F N el vals ∧ ∀ (j : Nat) (u : Value), vals[j]? = some u → w.cell? ⟨g, p + j, none⟩ = some u := by simpa only [RepS, RepF] using hx
      obtain ⟨g, p, vals, rfl, h1, h2, h3⟩ := hx'
      exact ⟨_, hrun _ _, fun loc' => by simp only [RepS, RepF]; exact ⟨g, p, vals, by rw [Nat.add_assoc], h1, h2, h3⟩⟩
    · simp at h

theorem unV_run {op : UnOp} {x v : (SV m)} {u : Value} (h : unV op x = some v) (hx : ∀ l, x = .leaf l → RepL w F N l u) : ∃ z, (Op.unary op u).run P w = .ok z w ∧ ∃ l, v = .leaf l ∧ RepL w F N l z := by
  unfold unV at h
  split at h
  · simp only [Option.some.injEq] at h; subst h
    cases repL_bool (hx _ rfl)
    exact ⟨_, rfl, _, rfl, .bool _⟩
  · simp only [Option.some.injEq] at h; subst h
    cases repL_int (hx _ rfl)
    exact ⟨_, rfl, _, rfl, .int _ _⟩
  · simp at h

theorem eff_sound {D : (Oracle m)} (hD : DSound P D) (h : Inv P s a.tmps w F N Ow bm) (hnt : nt ≤ s.boxes.length) {o : Oper} {mv pu ta : Bool} {e : (Eff m)} (he : effO P D nt mv pu ta o s.eval s.boxes = some e)
    {next : Act → World → Prop} {Q : Exit → Act → World → Prop} (hk : ∀ a' w', Step P N nt (e.app s) a w F Ow bm a' w' → next a' w') : o.wp P a w next Q := by
  have ev := fun x => h.eval (a := a) rfl x
  have lf : ∀ x l, s.eval x = .leaf l → RepL w F N l (a.eval x) := fun x l hl => (ev x).leafOf l (drop_leaf hl)
  cases hop : o.op
  case load t x => exact sound_load h hop he hk
  case store t x y => exact sound_store h hop he hk
  case box t x => exact sound_box h hnt hop he hk
  case alloc t => exact sound_alloc h hnt hop he hk
  case buildSlice t n parts => exact sound_buildSlice h hop he hk
  case makeSlice t x y => exact sound_make h hnt hop he hk
  case move x =>
    simp only [effO, hop] at he
    split at he
    · simp only [Option.some.injEq] at he; subst he
      have hrun : (execOp a.eval o).run P w = .ok (.value (a.eval x)) w := by simp [execOp, hop]
      unfold Oper.wp; rw [hrun]
      exact hk _ _ (step_take h x o.dst o.type)
    · simp only [Option.some.injEq] at he; subst he
      exact step_val h (z := a.eval x) (by simp [execOp, hop]) (fun _ => RepS.drop (ev x)) hk
  case assign x =>
    simp only [effO, hop] at he
    split at he
    · simp only [Option.some.injEq] at he; subst he
      have hrun : (execOp a.eval o).run P w = .ok (.value (a.eval x)) w := by simp [execOp, hop]
      unfold Oper.wp; rw [hrun]
      exact hk _ _ (step_take h x o.dst o.type)
    · simp only [Option.some.injEq] at he; subst he
      exact step_val h (z := a.eval x) (by simp [execOp, hop]) (fun _ => RepS.drop (ev x)) hk
  case pick c x y =>
    simp only [effO, hop] at he
    obtain ⟨b, hb, he⟩ := onBool_eq he
    have hc := repL_bool (lf c _ hb)
    rw [branch_eq] at he
    cases b
    · simp only [Bool.false_eq_true, if_false, Option.some.injEq] at he; subst he
      exact step_val h (z := a.eval y) (by simp [execOp, hop, hc, asBool]) (fun _ => RepS.drop (ev y)) hk
    · simp only [if_true, Option.some.injEq] at he; subst he
      exact step_val h (z := a.eval x) (by simp [execOp, hop, hc, asBool]) (fun _ => RepS.drop (ev x)) hk
  case build t parts =>
    simp only [effO, hop, Option.map_eq_some_iff] at he
    obtain ⟨v, hv, rfl⟩ := he
    obtain ⟨us, hrun, ls, rfl, hr⟩ := buildV_run (N := N) (F := F) (w := w) (qs := parts.map fun p => (p.1, a.eval p.2)) hv (by simpa using parts_rep h parts.toList)
    exact step_val h (z := .agg us) (v := .agg ls) (by simp only [execOp, hop]; simp [hrun]) (fun _ => RepS.agg hr) hk
  case nilCheck x =>
    simp only [effO, hop] at he
    have hx := ev x
    split at he
    · rename_i b p hxe
      simp only [Option.map_some, Option.some.injEq] at he; subst he
      rw [hxe] at hx
      obtain ⟨hz, _⟩ := ptr_eq hx
      exact step_val h (z := a.eval x) (v := .ptr b p) (by simp [execOp, hop, hz]) (fun loc => by
        have : RepF (m := m) w F N bm s.al (.ptr b p) (a.eval x) := by simpa only [RepS] using hx
        simpa only [RepS] using this) hk
    · rename_i fc el p hxe
      simp only [Option.map_some, Option.some.injEq] at he; subst he
      rw [hxe] at hx
      have hF : RepF (m := m) w F N bm s.al (.eptr fc el p) (a.eval x) := by simpa only [RepS] using hx
      have hF2 := hF
      obtain ⟨g, q, vals, hz, _⟩ := hF2
      exact step_val h (z := a.eval x) (v := .eptr fc el p) (by simp [execOp, hop, hz]) (fun loc => by simpa only [RepS] using hF) hk
    · simp at he
  case binOp op t x y p =>
    simp only [effO, hop, Option.map_eq_some_iff] at he
    obtain ⟨v, hv, rfl⟩ := he
    obtain ⟨z, hrun, hz⟩ := binV_run (P := P) (w := w) (F := F) (N := N) (o := x) (o' := y) hv (fun l hl => (ev x).leafOf l hl) (fun l hl => (ev y).leafOf l hl) (fun l hl => (ev x).aggOf l hl) (fun l hl => (ev y).aggOf l hl)
    exact step_val h (z := z) (v := v) (by simp only [execOp, hop]; rw [Sem.run_bind, hrun]; rfl) (fun _ => rep_of_leaf hz) hk
  case unOp op p x =>
    simp only [effO, hop, Option.map_eq_some_iff] at he
    obtain ⟨v, hv, rfl⟩ := he
    obtain ⟨z, hrun, hz⟩ := unV_run (P := P) hv (lf x)
    exact step_val h (z := z) (v := v) (by simp [execOp, hop, hrun]) (fun _ => rep_of_leaf hz) hk
  case convert src dst x =>
    simp only [effO, hop, Option.map_eq_some_iff] at he
    obtain ⟨v, hv, rfl⟩ := he
    rcases convV_run (P := P) (w := w) (F := F) (N := N) hv (fun l hl => (ev x).leafOf l hl) with ⟨z, l, hrun, rfl, hz⟩ | ⟨st, cap, ob, w', hrun, hcap, rfl, rfl, hcell⟩
    · exact step_val h (z := z) (v := .leaf l) (by simp [execOp, hop, hrun]) (fun _ => RepS.leaf hz) hk
    · obtain ⟨W, hsz, hnew⟩ := wrote_new (F := F) (w := w) (o := ob) (h.new _ (Nat.le_refl _)).1 (.inr rfl)
      obtain ⟨F', h1, h2, h3, h4⟩ := h.more W (by omega) st.size
      have hr : (execOp a.eval o).run P w = .ok (.value (.slice (some ⟨w.heap.size, 0, none⟩) st.size cap)) (w.drew.alloc ob) := by simp [execOp, hop, hrun]
      unfold Oper.wp; rw [hr]
      refine hk _ _ ⟨F', Ow, bm, ?_, h2, fun _ _ => rfl, put_defers _ _⟩
      rw [app_put]
      refine Inv.put (a := a) h1 fun d _ => RepS.leaf ?_
      have hl : (st.data.toList.map fun b => [(Leaf.int .u8 b.toNat : Leaf m)]).length = st.size := by rw [List.length_map, Array.length_toList]; rfl
      rw [← hl]
      refine repL_sl_mk (z := 1) (vals := st.data.toList.map fun b => Value.int .u8 b.toNat) (by rw [hl]; exact hcap) (by intro e he; obtain ⟨b, _, rfl⟩ := List.mem_map.1 he; rfl) (fun _ => ⟨w.heap.size, 0, rfl, fun _ => h.low, ?_, ⟨fun hs => by rw [Fl.soft_new] at hs; simp at hs, fun hz => absurd (Nat.lt_of_lt_of_le (N.lt _ hz) h.low) (Nat.lt_irrefl _)⟩, fun j v hj => ?_⟩) (repR_bytes _ _ _)
      · rw [h3, List.length_map, Array.length_toList]; exact Nat.le_of_eq (Nat.zero_add _)
      · simp only [List.getElem?_map, Option.map_eq_some_iff] at hj
        obtain ⟨b, hb, rfl⟩ := hj
        rw [Nat.zero_add]
        exact hcell j b hb
  case makeFunc fn first caps =>
    simp only [effO, hop] at he
    split at he
    · rename_i f
      split at he
      · rename_i hf0
        obtain ⟨hcap, he'⟩ := guarded_eq he
        simp only [Option.map_some, Option.some.injEq] at he'; subst he'
        have hfe : first = #[] := Array.eq_empty_of_size_eq_zero hf0
        refine step_val h (z := .func (.func f) #[] (caps.map a.eval)) (v := .fn f (caps.toList.map s.eval)) (by simp [execOp, hop, Instr.makeFunc, hfe]) (fun loc => ?_) hk
        refine ⟨caps.map a.eval, rfl, by simp, fun j c u hc hu => ?_⟩
        simp only [List.getElem?_map, Option.map_eq_some_iff] at hc
        obtain ⟨x, hx, rfl⟩ := hc
        have hu' : a.eval x = u := by
          have : caps[j]? = some x := by simpa using hx
          simpa [this] using hu
        subst hu'
        have hok := List.all_eq_true.1 hcap (s.eval x) (List.mem_map.2 ⟨x, List.mem_of_getElem? hx, rfl⟩)
        have hr := ev x
        cases hxe : s.eval x <;> rw [hxe] at hok hr <;> first | (simp [capOk] at hok; done) | simpa only [RepS] using hr
      · simp at he
    · simp at he
  case slice t x lo hi mx =>
    simp only [effO, hop] at he
    split at he
    · rw [Option.bind_eq_some_iff] at he
      obtain ⟨l, hl, he⟩ := he
      rw [Option.bind_eq_some_iff] at he
      obtain ⟨r, hr, he⟩ := he
      rw [Option.map_eq_some_iff] at he
      obtain ⟨v, hv, rfl⟩ := he
      obtain ⟨z, hrun, hz⟩ := sliceV_run (P := P) (w := w) (F := F) (N := N) hv (fun l hl => (ev x).leafOf l hl) (bound_rep h hl) (bound_rep h hr)
      exact step_val h (z := z) (v := v) (by simp [execOp, hop, hrun]) (fun _ => rep_of_leaf hz) hk
    · simp at he
  case fieldAddr t x f =>
    simp only [effO, hop, Option.map_eq_some_iff] at he
    obtain ⟨v, hv, rfl⟩ := he
    obtain ⟨z, hrun, hz⟩ := fieldAddr_run (P := P) (s := s) hv (ev x)
    exact step_val h (z := z) (v := v) (by simp [execOp, hop, hrun]) hz hk
  case field t x f =>
    simp only [effO, hop] at he
    have hx := ev x
    split at he
    · rename_i cs hxe
      rw [Option.bind_eq_some_iff] at he
      obtain ⟨p, hp, he⟩ := he
      rw [Option.map_eq_some_iff] at he
      obtain ⟨v, hv, rfl⟩ := he
      obtain ⟨fs, fld, hu, hf, rfl⟩ := fieldT_eq hp
      rw [hxe] at hx
      obtain ⟨us, hus, hr⟩ := hx.aggOf cs rfl
      obtain ⟨z, hrun, hz⟩ := partL_run (P := P) (w := w) (F := F) (N := N) hv hr
      exact step_val h (z := z) (v := v) (by simp [execOp, hop, hus, Instr.field, run_underlying hu, hf, asAgg, hrun]) (fun _ => rep_of_part hz) hk
    · simp at he
  case indexAddr t x i =>
    simp only [effO, hop, Option.map_eq_some_iff] at he
    obtain ⟨v, hv, rfl⟩ := he
    obtain ⟨z, hrun, hz⟩ := indexAddrV_run (P := P) (w := w) (F := F) (N := N) (bm := bm) (al := s.al) hv (fun l hl => (ev x).leafOf l hl) (lf i) (fun b z lo n hb => (ev x).bslOf b z lo n hb)
    exact step_val h (z := z) (v := v) (by simp [execOp, hop, hrun]) (fun _ => hz _ _) hk
  case index t x i =>
    simp only [effO, hop, Option.map_eq_some_iff] at he
    obtain ⟨v, hv, rfl⟩ := he
    obtain ⟨z, hrun, hz⟩ := indexV_run (P := P) (w := w) (F := F) (N := N) hv (lf x) (lf i)
    exact step_val h (z := z) (v := v) (by simp [execOp, hop, hrun]) (fun _ => rep_of_leaf hz) hk
  case extract x i =>
    simp only [effO, hop] at he
    have hx := ev x
    split at he
    · rename_i vs hxe
      rw [Option.bind_eq_some_iff] at he
      obtain ⟨v, hv, he⟩ := he
      simp only [Option.map_some, Option.some.injEq] at he; subst he
      rw [hxe] at hx
      obtain ⟨us, hus, hsz, hc⟩ := hx
      have hlt : i < us.size := by rw [hsz]; exact (List.getElem?_eq_some_iff.1 hv).1
      exact step_val h (z := us[i]) (v := v.drop) (by simp [execOp, hop, hus, Instr.extract, hlt]) (fun _ => repS_of_F (hc i v _ hv (Array.getElem?_eq_getElem hlt))) hk
    · simp at he
  case call c =>
    cases hc : c.callee with
    | value g => exact sound_call hD h hop hc he hk
    | invoke r m => simp only [effO, hop, hc] at he; simp at he
    | builtin b =>
      have he0 := he
      simp only [effO, hop, hc] at he
      split at he
      · rename_i x y hargs
        exact sound_append h hop hc hargs he0 hk
      · rename_i x hargs
        have hargs' : c.args = #[x] := by rw [← hargs]
        rw [Option.map_eq_some_iff] at he
        obtain ⟨v, hv, rfl⟩ := he
        obtain ⟨z, hrun, hz⟩ := lenV_run (P := P) (w := w) (F := F) (N := N) (ty := o.type) hv (fun l hl => (ev x).leafOf l hl) (fun b z lo n hb => by obtain ⟨cap, h1, _⟩ := (ev x).bslOf b z lo n hb; exact ⟨_, cap, h1⟩)
        exact step_val h (z := z) (v := v) (by simp [execOp, hop, resolve, hc, invoke, builtin, hargs', hrun]) (fun _ => rep_of_leaf hz) hk
      · rename_i x y hargs
        have hargs' : c.args = #[x, y] := by rw [← hargs]
        rw [Option.map_eq_some_iff] at he
        obtain ⟨v, hv, rfl⟩ := he
        obtain ⟨z, hrun, hz⟩ := minV_run (P := P) (w := w) (F := F) (N := N) (ts := c.argTypes) (ty := o.type) hv (lf x) (lf y)
        simp only [if_true] at hrun
        exact step_val h (z := z) (v := v) (by simp [execOp, hop, resolve, hc, invoke, builtin, hargs', hrun]) (fun _ => rep_of_leaf hz) hk
      · rename_i x y hargs
        have hargs' : c.args = #[x, y] := by rw [← hargs]
        rw [Option.map_eq_some_iff] at he
        obtain ⟨v, hv, rfl⟩ := he
        obtain ⟨z, hrun, hz⟩ := minV_run (P := P) (w := w) (F := F) (N := N) (ts := c.argTypes) (ty := o.type) hv (lf x) (lf y)
        simp only [Bool.false_eq_true, if_false] at hrun
        exact step_val h (z := z) (v := v) (by simp [execOp, hop, resolve, hc, invoke, builtin, hargs', hrun]) (fun _ => rep_of_leaf hz) hk
      · simp at he
  all_goals (simp only [effO, hop] at he; simp at he)
end
end Go.Vs
