/- What the program's functions compute, read off their text by the shadow runner (VsAll, VsReg, VsCode, VsRun, VsMain, VsLim); no condition. -/
import Derived.LoopN
import Derived.Test.YtphfegkplihmhaaGreatDoorVB1
section
namespace Go.Vs
variable {m : Bool}
variable {P : Program} {N : Env}
section
variable {s : (St m)} {a : Act} {w : World} {F : Fr} {Ow : Own} {bm : Nat → Nat} {nt : Nat}
theorem uG {β : Type} {v : (SV m)} {k : Bool → Option β} {y : β} (h : oM v k = some y) : ∃ b, v = .leaf (.bool b) ∧ k b = some y := by
  unfold oM at h
  split at h
  · exact ⟨_, rfl, h⟩
  · simp at h
theorem nY {β : Type} (b : Bool) (x y : Option β) : aB b x y = if b then x else y := by cases b <;> rfl
theorem aOd {t : TypeId} {f : Nat} {p : Nat × TypeId} (h : aCS P t f = some p) : ∃ fs fld, P.underlying t = some (.struct fs) ∧ fs[f]? = some fld ∧ p = (fld.offset, fld.type) := by
  unfold aCS at h
  split at h
  · rename_i fs hu
    rw [Option.map_eq_some_iff] at h
    obtain ⟨fld, hf, rfl⟩ := h
    exact ⟨fs, fld, hu, hf, rfl⟩
  · simp at h
theorem aNs {t : TypeId} {x v : (SV m)} {f : Nat} {u : Value} {loc : Loc} (h : aAO P t x f = some v) (hx : aR P w F N Ow bm s.al loc x u) :
    ∃ z, (Instr.fieldAt t u f).run P w = .ok z w ∧ ∀ loc', aR P w F N Ow bm s.al loc' v z := by
  unfold aAO at h
  rw [Option.bind_eq_some_iff] at h
  obtain ⟨p, hp, h⟩ := h
  obtain ⟨fs, fld, hu, hf, rfl⟩ := aOd hp
  rw [Option.bind_eq_some_iff] at h
  obtain ⟨n, hn, h⟩ := h
  obtain ⟨d, i, hd, hi, rfl⟩ := nQ hn
  split at h
  · simp at h
  · rename_i hnz
    have hrun : ∀ g q, (Instr.fieldAt t (.pointer (some ⟨g, q, none⟩)) f).run P w = .ok (.pointer (some ⟨g, q + fld.offset, none⟩)) w := by
      intro g q
      simp [Instr.fieldAt, run_underlying hu, hf, Instr.sureAddr, fieldPlace, iX hi, hnz, qF]
    split at h
    · rename_i b q
      simp only [Option.some.injEq] at h; subst h
      have hx' : u = .pointer (some ⟨bm b, q, none⟩) ∧ s.al b = true := by simpa only [aR, dF] using hx
      obtain ⟨rfl, hal⟩ := hx'
      exact ⟨_, hrun _ _, fun loc' => by simp only [aR, dF]; exact ⟨trivial, hal⟩⟩
    · rename_i fc el q
      simp only [Option.some.injEq] at h; subst h
      have hx' : ∃ g p vals, u = .pointer (some ⟨g, p + q, none⟩) ∧ p + el.length ≤ F g ∧ (fc.At N g ∧ (N.Z g = true → ∀ l ∈ el, l.soft = true)) ∧ cU w F N el vals ∧ ∀ (j : Nat) (u : Value), vals[j]? = some u → w.cell? ⟨g, p + j, none⟩ = some u := by simpa only [aR, dF] using hx
      obtain ⟨g, p, vals, rfl, h1, h2, h3⟩ := hx'
      exact ⟨_, hrun _ _, fun loc' => by simp only [aR, dF]; exact ⟨g, p, vals, by rw [Nat.add_assoc], h1, h2, h3⟩⟩
    · simp at h
theorem aUI {op : UnOp} {x v : (SV m)} {u : Value} (h : unV op x = some v) (hx : ∀ l, x = .leaf l → eB w F N l u) : ∃ z, (Op.unary op u).run P w = .ok z w ∧ ∃ l, v = .leaf l ∧ eB w F N l z := by
  unfold unV at h
  split at h
  · simp only [Option.some.injEq] at h; subst h
    cases qU (hx _ rfl)
    exact ⟨_, rfl, _, rfl, .bool _⟩
  · simp only [Option.some.injEq] at h; subst h
    cases lT (hx _ rfl)
    exact ⟨_, rfl, _, rfl, .int _ _⟩
  · simp at h
theorem Inv.storeRow {tmps : Array Value} (h : Inv P s tmps w F N Ow bm) {b : Nat} {cs : List (SV m)} {cur : Array Value} {et : TypeId} (hb : aW s.boxes b = some cs) (hne : cs ≠ []) (g1 : w.heap[bm b]? = some (.cells cur et (0, 0))) (g2 : cs.length ≤ cur.size)
    (g5 : ∀ (j : Nat) (c : SV m) (u : Value), cs[j]? = some c → cur[j]? = some u → aR P w F N Ow bm s.al (.box b j) c u) {p : Nat} {nsv : List (SV m)} {news : List Value} (hlen : news.length = nsv.length) (hle : p + nsv.length ≤ cs.length)
    (hr : ∀ (j : Nat) (c : SV m) (u : Value), nsv[j]? = some c → news[j]? = some u → aR P w F N Ow bm s.al (.box b (p + j)) c u) :
    Inv P { s with boxes := s.boxes.set b (some (cs.take p ++ nsv ++ cs.drop (p + nsv.length))) } tmps (w.setRow (bm b) (cur.toList.take p ++ news ++ cur.toList.drop (p + nsv.length)).toArray) F N Ow bm ∧
      Far N w F Ow (w.setRow (bm b) (cur.toList.take p ++ news ++ cur.toList.drop (p + nsv.length)).toArray) F Ow := by
  have hcl2 := Array.length_toList (xs := cur)
  refine h.setBox (b := b) (cs := cs) (cs' := cs.take p ++ nsv ++ cs.drop (p + nsv.length)) (cur' := (cur.toList.take p ++ news ++ cur.toList.drop (p + nsv.length)).toArray)
    (w' := w.setRow (bm b) (cur.toList.take p ++ news ++ cur.toList.drop (p + nsv.length)).toArray) hb hne g1
    (by simp only [List.size_toArray, List.length_append, List.length_take, List.length_drop, hcl2]; omega) (by simp only [List.size_toArray, List.length_append, List.length_take, List.length_drop, hcl2]; omega) (fun k hk => setRow_other w _ k _ hk) (setRow_heap w _ cur _ et _ g1) (by simp) rfl rfl rfl
    (fun j c u hj hu => ?_)
  have hj0 : j < cs.length := by
    have := (List.getElem?_eq_some_iff.1 hj).1
    simp only [List.length_append, List.length_take, List.length_drop] at this
    omega
  rw [List.append_assoc] at hj
  have hu' : (cur.toList.take p ++ (news ++ cur.toList.drop (p + nsv.length)))[j]? = some u := by simpa using hu
  by_cases hjp : j < p
  · rw [List.getElem?_append_left (by rw [List.length_take]; omega), List.getElem?_take, if_pos hjp] at hj
    rw [List.getElem?_append_left (by rw [List.length_take]; omega), List.getElem?_take, if_pos hjp] at hu'
    exact g5 j c u hj (by simpa using hu')
  · rw [List.getElem?_append_right (by rw [List.length_take]; omega), List.length_take, Nat.min_eq_left (by omega)] at hj
    rw [List.getElem?_append_right (by rw [List.length_take]; omega), List.length_take, Nat.min_eq_left (by omega)] at hu'
    by_cases hjn : j - p < nsv.length
    · rw [List.getElem?_append_left (by omega)] at hj
      rw [List.getElem?_append_left (by omega)] at hu'
      have := hr (j - p) c u hj hu'
      rwa [show p + (j - p) = j by omega] at this
    · rw [List.getElem?_append_right (by omega), List.getElem?_drop] at hj
      rw [List.getElem?_append_right (by omega), List.getElem?_drop, hlen] at hu'
      rw [show p + nsv.length + (j - p - nsv.length) = j by omega] at hj
      rw [show p + nsv.length + (j - p - nsv.length) = j by omega] at hu'
      exact g5 j c u hj (by simpa using hu')
theorem aQl (h : Inv P s a.tmps w F N Ow bm) {o : Oper} {mv : Bool} {c : Call} {x : Operand} {e : (Eff m)} {D : (bK m)} {pu ta : Bool} (ho : o.op = .call c) (hc : c.callee = .builtin .clear) (hargs : c.args.toList = [x])
    (he : cV P D nt mv pu ta o s.eval s.boxes = some e) {next : Act → World → Prop} {Q : Exit → Act → World → Prop} (hk : ∀ a' w', kS P N nt (e.app s) a w F Ow bm a' w' → next a' w') : o.wp P a w next Q := by
  simp only [cV, ho, hc, hargs] at he
  have hargs' : c.args = #[x] := by rw [← hargs]
  split at he
  · rename_i b z lo n hxe
    rw [Option.bind_eq_some_iff] at he
    obtain ⟨cs, hb, he⟩ := he
    rw [Option.map_eq_some_iff] at he
    obtain ⟨cs', hcs', rfl⟩ := he
    unfold aJO at hcs'
    rw [Option.bind_eq_some_iff] at hcs'
    obtain ⟨t, ht, hcs'⟩ := hcs'
    rw [Option.bind_eq_some_iff] at hcs'
    obtain ⟨et, het, hcs'⟩ := hcs'
    rw [Option.bind_eq_some_iff] at hcs'
    obtain ⟨ze, hze, hcs'⟩ := hcs'
    split at hcs'
    · rename_i hcnd
      obtain ⟨⟨rfl, hz0⟩, hle⟩ := hcnd
      simp only [Option.some.injEq] at hcs'
      subst hcs'
      have hx := (h.eval (a := a) rfl x).bslOf b ze.length lo n (by rw [hxe]; rfl)
      obtain ⟨A, cap, hv, hcap, hA⟩ := hx.len
      have htu := uN het
      have happ : ∀ bs : gU m, ((⟨qJ o.dst .any, some bs⟩ : (Eff m)).app s) = ({ s with boxes := bs } : St m).put o.dst .any := fun bs => by rw [tM]; rfl
      rw [happ] at hk
      by_cases hn : n = 0
      · subst hn
        have hrun : (execOp a.eval o).run P w = .ok (.value (.tuple #[])) w := by
          cases A <;> simp [execOp, ho, resolve, hc, invoke, builtin, hargs', hv, Builtin.clear_, ht, run_underlying htu]
        unfold Oper.wp
        rw [hrun]
        refine hk _ _ ⟨F, Ow, bm, ?_, Far.refl _ _ _, fun _ _ => rfl, gQ _ _⟩
        have hsame : s.boxes.set b (some (cs.take (lo * ze.length) ++ (List.replicate 0 ze).flatten.map .leaf ++ cs.drop ((lo + 0) * ze.length))) = s.boxes := by
          apply List.ext_getElem?
          intro k
          by_cases hk : k = b
          · subst hk
            have hlt := rH hb
            rw [List.getElem?_set_self hlt]
            unfold aW at hb
            rw [List.getD_eq_getElem?_getD, List.getElem?_eq_getElem hlt] at hb
            rw [List.getElem?_eq_getElem hlt]
            simp at hb
            simp [hb]
          · rw [List.getElem?_set_ne (fun e => hk e.symm)]
        rw [hsame]
        exact Inv.put (a := a) h fun d _ => aR.any
      · obtain rfl := hA (by omega)
        have hcl : (lo + n) * ze.length = lo * ze.length + n * ze.length := Nat.add_mul _ _ _
        have hnz : 0 < n * ze.length := Nat.mul_pos (by omega) hz0
        have hne : cs ≠ [] := by rintro rfl; simp at hle; omega
        obtain ⟨cur, et2, g1, g2, g3, g4, g5⟩ := (h.box b cs hb).resolve_left hne
        obtain ⟨inf, zv, hinf, hzv, hlv⟩ := xA hze
        have hrz := vK w F (N := N) _ _ hlv
        have hzs : zv.cells.size = ze.length := by have := hrz.1; simpa using this
        have hfl : ((List.replicate n ze).flatten.map (SV.leaf (m := m))).length = n * ze.length := by simp
        have hzc : (Builtin.zeroCells zv.cells n).toList.length = n * ze.length := by simp [Builtin.zeroCells, hzs]
        have hget : ∀ (j : Nat) (u : Value), (Builtin.zeroCells zv.cells n).toList[j]? = some u → j < n * ze.length ∧ zv.cells.toList[j % ze.length]? = some u := by
          intro j u hu
          have hj : j < n * ze.length := by rw [← hzc]; exact (List.getElem?_eq_some_iff.1 hu).1
          refine ⟨hj, ?_⟩
          have hjm : j % ze.length < zv.cells.size := by rw [hzs]; exact Nat.mod_lt _ hz0
          have hu' : u = zv.cells[j % zv.cells.size]! := by simpa [Builtin.zeroCells, hzs, hj] using hu.symm
          rw [hzs] at hu'
          subst hu'
          simp [hjm]
        obtain ⟨k1, k2⟩ := h.storeRow (p := lo * ze.length) (nsv := (List.replicate n ze).flatten.map .leaf) (news := (Builtin.zeroCells zv.cells n).toList) hb hne g1 g2 g5 (by rw [hfl, hzc]) (by rw [hfl, ← hcl]; exact hle) (fun j c u hc hu => by
          rw [List.getElem?_map, Option.map_eq_some_iff] at hc
          obtain ⟨l, hl, rfl⟩ := hc
          obtain ⟨hj, hzj⟩ := hget j u hu
          rw [aCJ _ _ hj] at hl
          exact aR.leaf (hrz.2 _ l u hl hzj))
        rw [hfl, ← hcl] at k1 k2
        have hst := run_storeCells_at P (bm b) (lo * ze.length) et2 (Builtin.zeroCells zv.cells n).toList 0 cur w g1 (by rw [hzc]; omega) (fun v hv => by
          obtain ⟨j, hj⟩ := List.getElem?_of_mem hv
          exact hrz.one v (List.mem_of_getElem? (hget j v hj).2))
        have hrun : (execOp a.eval o).run P w = .ok (.value (.tuple #[])) (w.setRow (bm b) (cur.toList.take (lo * ze.length) ++ (Builtin.zeroCells zv.cells n).toList ++ cur.toList.drop ((lo + n) * ze.length)).toArray) := by
          rw [Nat.add_zero, hzc, ← hcl] at hst
          obtain ⟨n', rfl⟩ : ∃ n', n = n' + 1 := ⟨n - 1, by omega⟩
          simp [execOp, ho, resolve, hc, invoke, builtin, hargs', hv, Builtin.clear_, ht, run_underlying htu, zeroValue, typeInfo, hinf, hzv, hst]
        unfold Oper.wp
        rw [hrun]
        refine hk _ _ ⟨F, Ow, bm, ?_, k2, fun _ _ => rfl, gQ _ _⟩
        exact Inv.put (a := a) k1 fun d _ => aR.any
    · simp at hcs'
  · simp at he
theorem aSX {D : (bK m)} (hD : lS P N D) (h : Inv P s a.tmps w F N Ow bm) (hnt : nt ≤ s.boxes.length) {o : Oper} {mv pu ta : Bool} {e : (Eff m)} (he : cV P D nt mv pu ta o s.eval s.boxes = some e)
    {next : Act → World → Prop} {Q : Exit → Act → World → Prop} (hk : ∀ a' w', kS P N nt (e.app s) a w F Ow bm a' w' → next a' w') : o.wp P a w next Q := by
  have ev := fun x => h.eval (a := a) rfl x
  have lf : ∀ x l, s.eval x = .leaf l → eB w F N l (a.eval x) := fun x l hl => (ev x).leafOf l (aBG hl)
  cases hop : o.op
  case load t x => exact aQX h hop he hk
  case store t x y => exact aP5 h hop he hk
  case box t x => exact aSN h hnt hop he hk
  case alloc t => exact aPw h hnt hop he hk
  case buildSlice t n parts => exact aJJ h hop he hk
  case makeSlice t x y => exact aRl h hnt hop he hk
  case move x =>
    simp only [cV, hop] at he
    split at he
    · simp only [Option.some.injEq] at he; subst he
      have hrun : (execOp a.eval o).run P w = .ok (.value (a.eval x)) w := by simp [execOp, hop]
      unfold Oper.wp; rw [hrun]
      exact hk _ _ (aN2 h x o.dst o.type)
    · simp only [Option.some.injEq] at he; subst he
      exact eX h (z := a.eval x) (by simp [execOp, hop]) (fun _ => aR.drop (ev x)) hk
  case assign x =>
    simp only [cV, hop] at he
    split at he
    · simp only [Option.some.injEq] at he; subst he
      have hrun : (execOp a.eval o).run P w = .ok (.value (a.eval x)) w := by simp [execOp, hop]
      unfold Oper.wp; rw [hrun]
      exact hk _ _ (aN2 h x o.dst o.type)
    · simp only [Option.some.injEq] at he; subst he
      exact eX h (z := a.eval x) (by simp [execOp, hop]) (fun _ => aR.drop (ev x)) hk
  case pick c x y =>
    simp only [cV, hop] at he
    obtain ⟨b, hb, he⟩ := uG he
    have hc := qU (lf c _ hb)
    rw [nY] at he
    cases b
    · simp only [Bool.false_eq_true, if_false, Option.some.injEq] at he; subst he
      exact eX h (z := a.eval y) (by simp [execOp, hop, hc, asBool]) (fun _ => aR.drop (ev y)) hk
    · simp only [if_true, Option.some.injEq] at he; subst he
      exact eX h (z := a.eval x) (by simp [execOp, hop, hc, asBool]) (fun _ => aR.drop (ev x)) hk
  case build t parts =>
    simp only [cV, hop, Option.map_eq_some_iff] at he
    obtain ⟨v, hv, rfl⟩ := he
    obtain ⟨us, hrun, ls, rfl, hr⟩ := aRx (N := N) (F := F) (w := w) (qs := parts.map fun p => (p.1, a.eval p.2)) hv (by simpa using aJV h parts.toList)
    exact eX h (z := .agg us) (v := .agg ls) (by simp only [execOp, hop]; simp [hrun]) (fun _ => aR.agg hr) hk
  case nilCheck x =>
    simp only [cV, hop] at he
    have hx := ev x
    split at he
    · rename_i b p hxe
      simp only [Option.map_some, Option.some.injEq] at he; subst he
      rw [hxe] at hx
      obtain ⟨hz, _⟩ := aQY hx
      exact eX h (z := a.eval x) (v := .ptr b p) (by simp [execOp, hop, hz]) (fun loc => by
        have : dF (m := m) w F N bm s.al (.ptr b p) (a.eval x) := by simpa only [aR] using hx
        simpa only [aR] using this) hk
    · rename_i fc el p hxe
      simp only [Option.map_some, Option.some.injEq] at he; subst he
      rw [hxe] at hx
      have hF : dF (m := m) w F N bm s.al (.eptr fc el p) (a.eval x) := by simpa only [aR] using hx
      have hF2 := hF
      obtain ⟨g, q, vals, hz, _⟩ := hF2
      exact eX h (z := a.eval x) (v := .eptr fc el p) (by simp [execOp, hop, hz]) (fun loc => by simpa only [aR] using hF) hk
    · rename_i f cs hxe
      simp only [Option.map_some, Option.some.injEq] at he
      subst he
      rw [hxe] at hx
      have hF : dF (m := m) w F N bm s.al (.kfn f cs) (a.eval x) := by simpa only [aR] using hx
      have hF' := hF
      obtain ⟨g, q, vs, hz, _⟩ := hF'
      exact eX h (z := a.eval x) (v := .kfn f cs) (by simp [execOp, hop, hz]) (fun loc => by simpa only [aR] using hF) hk
    · simp at he
  case binOp op t x y p =>
    simp only [cV, hop, Option.map_eq_some_iff] at he
    obtain ⟨v, hv, rfl⟩ := he
    obtain ⟨z, hrun, hz⟩ := aUc (P := P) (w := w) (F := F) (N := N) (o := x) (o' := y) hv (fun l hl => (ev x).leafOf l hl) (fun l hl => (ev y).leafOf l hl) (fun l hl => (ev x).aggOf l hl) (fun l hl => (ev y).aggOf l hl)
    exact eX h (z := z) (v := v) (by simp only [execOp, hop]; rw [Sem.run_bind, hrun]; rfl) (fun _ => qI hz) hk
  case unOp op p x =>
    simp only [cV, hop, Option.map_eq_some_iff] at he
    obtain ⟨v, hv, rfl⟩ := he
    obtain ⟨z, hrun, hz⟩ := aUI (P := P) hv (lf x)
    exact eX h (z := z) (v := v) (by simp [execOp, hop, hrun]) (fun _ => qI hz) hk
  case convert src dst x =>
    simp only [cV, hop, Option.map_eq_some_iff] at he
    obtain ⟨v, hv, rfl⟩ := he
    rcases aSE (P := P) (w := w) (F := F) (N := N) hv (fun l hl => (ev x).leafOf l hl) with ⟨z, l, hrun, rfl, hz⟩ | ⟨st, cap, ob, w', hrun, hcap, rfl, rfl, hcell⟩
    · exact eX h (z := z) (v := .leaf l) (by simp [execOp, hop, hrun]) (fun _ => aR.leaf hz) hk
    · obtain ⟨W, hsz, hnew⟩ := aNH (F := F) (w := w) (o := ob) (h.new _ (Nat.le_refl _)).1 (.inr rfl)
      obtain ⟨F', h1, h2, h3, h4⟩ := h.more W (by omega) st.size
      have hr : (execOp a.eval o).run P w = .ok (.value (.slice (some ⟨w.heap.size, 0, none⟩) st.size cap)) (w.drew.alloc ob) := by simp [execOp, hop, hrun]
      unfold Oper.wp; rw [hr]
      refine hk _ _ ⟨F', Ow, bm, ?_, h2, fun _ _ => rfl, gQ _ _⟩
      rw [aJa]
      refine Inv.put (a := a) h1 fun d _ => aR.leaf ?_
      have hl : (st.data.toList.map fun b => [(aC.int .u8 b.toNat : aC m)]).length = st.size := by rw [List.length_map, Array.length_toList]; rfl
      rw [← hl]
      refine nC (z := 1) (vals := st.data.toList.map fun b => Value.int .u8 b.toNat) (by rw [hl]; exact hcap) (by intro e he; obtain ⟨b, _, rfl⟩ := List.mem_map.1 he; rfl) (fun hpos => ⟨w.heap.size, 0, rfl, ⟨by rw [List.length_map] at hpos ⊢; exact hpos, Fl.Holds.kept⟩, ?_, ⟨fun hs => by rw [Fl.soft_kept] at hs; simp at hs, fun hz => absurd (Nat.lt_of_lt_of_le (N.lt _ hz) h.low.le) (Nat.lt_irrefl _)⟩, fun j v hj => ?_⟩) (aHK _ _ _)
      · rw [h3, List.length_map, Array.length_toList]; exact Nat.le_of_eq (Nat.zero_add _)
      · simp only [List.getElem?_map, Option.map_eq_some_iff] at hj
        obtain ⟨b, hb, rfl⟩ := hj
        rw [Nat.zero_add]
        exact hcell j b hb
  case makeFunc fn first caps =>
    simp only [cV, hop] at he
    split at he
    · rename_i f
      split at he
      · rename_i hf0
        obtain ⟨hcap, he'⟩ := aU he
        simp only [Option.map_some, Option.some.injEq] at he'; subst he'
        have hfe : first = #[] := Array.eq_empty_of_size_eq_zero hf0
        refine eX h (z := .func (.func f) #[] (caps.map a.eval)) (v := .fn f (caps.toList.map s.eval)) (by simp [execOp, hop, Instr.makeFunc, hfe]) (fun loc => ?_) hk
        refine ⟨caps.map a.eval, rfl, by simp, fun j c u hc hu => ?_⟩
        simp only [List.getElem?_map, Option.map_eq_some_iff] at hc
        obtain ⟨x, hx, rfl⟩ := hc
        have hu' : a.eval x = u := by
          have : caps[j]? = some x := by simpa using hx
          simpa [this] using hu
        subst hu'
        have hok := List.all_eq_true.1 hcap (s.eval x) (List.mem_map.2 ⟨x, List.mem_of_getElem? hx, rfl⟩)
        have hr := ev x
        cases hxe : s.eval x <;> rw [hxe] at hok hr <;> first | (simp [aPS] at hok; done) | simpa only [aR] using hr
      · simp at he
    · simp at he
  case slice t x lo hi mx =>
    simp only [cV, hop] at he
    split at he
    · rw [Option.bind_eq_some_iff] at he
      obtain ⟨l, hl, he⟩ := he
      rw [Option.bind_eq_some_iff] at he
      obtain ⟨r, hr, he⟩ := he
      rw [Option.map_eq_some_iff] at he
      obtain ⟨v, hv, rfl⟩ := he
      obtain ⟨z, hrun, hz⟩ := aRq (P := P) (w := w) (F := F) (N := N) (bm := bm) (al := s.al) hv (fun l hl => (ev x).leafOf l hl) (aCi h hl) (aCi h hr) (fun b z lo n hb => (ev x).bslOf b z lo n hb)
      exact eX h (z := z) (v := v) (by simp [execOp, hop, hrun]) (fun _ => hz _ _) hk
    · rename_i mx
      rw [Option.bind_eq_some_iff] at he
      obtain ⟨l, hl, he⟩ := he
      rw [Option.bind_eq_some_iff] at he
      obtain ⟨r, hr, he⟩ := he
      rw [Option.bind_eq_some_iff] at he
      obtain ⟨c, hc, he⟩ := he
      rw [Option.map_eq_some_iff] at he
      obtain ⟨v, hv, rfl⟩ := he
      obtain ⟨z, hrun, hz⟩ := aPy (P := P) (w := w) (F := F) (N := N) (bm := bm) (al := s.al) hv (aCi h hl) (aCi h hr) (aCi h hc) (fun b z lo n hb => (ev x).bslOf b z lo n hb)
      simp only [Option.map_some] at hrun
      exact eX h (z := z) (v := v) (by simp [execOp, hop, hrun]) (fun _ => hz _ _) hk
  case fieldAddr t x f =>
    simp only [cV, hop, Option.map_eq_some_iff] at he
    obtain ⟨v, hv, rfl⟩ := he
    obtain ⟨z, hrun, hz⟩ := aNs (P := P) (s := s) hv (ev x)
    exact eX h (z := z) (v := v) (by simp [execOp, hop, hrun]) hz hk
  case field t x f =>
    simp only [cV, hop] at he
    have hx := ev x
    split at he
    · rename_i cs hxe
      rw [Option.bind_eq_some_iff] at he
      obtain ⟨p, hp, he⟩ := he
      rw [Option.map_eq_some_iff] at he
      obtain ⟨v, hv, rfl⟩ := he
      obtain ⟨fs, fld, hu, hf, rfl⟩ := aOd hp
      rw [hxe] at hx
      obtain ⟨us, hus, hr⟩ := hx.aggOf cs rfl
      obtain ⟨z, hrun, hz⟩ := aSR (P := P) (w := w) (F := F) (N := N) hv hr
      exact eX h (z := z) (v := v) (by simp [execOp, hop, hus, Instr.field, run_underlying hu, hf, asAgg, hrun]) (fun _ => aKX hz) hk
    · simp at he
  case indexAddr t x i =>
    simp only [cV, hop, Option.map_eq_some_iff] at he
    obtain ⟨v, hv, rfl⟩ := he
    obtain ⟨z, hrun, hz⟩ := aMq (P := P) (w := w) (F := F) (N := N) (bm := bm) (al := s.al) hv (fun l hl => (ev x).leafOf l hl) (lf i) (fun b z lo n hb => (ev x).bslOf b z lo n hb)
    exact eX h (z := z) (v := v) (by simp [execOp, hop, hrun]) (fun _ => hz _ _) hk
  case index t x i =>
    simp only [cV, hop, Option.map_eq_some_iff] at he
    obtain ⟨v, hv, rfl⟩ := he
    obtain ⟨z, hrun, hz⟩ := aQI (P := P) (w := w) (F := F) (N := N) hv (lf x) (lf i)
    exact eX h (z := z) (v := v) (by simp [execOp, hop, hrun]) (fun _ => qI hz) hk
  case extract x i =>
    simp only [cV, hop] at he
    have hx := ev x
    split at he
    · rename_i vs hxe
      rw [Option.bind_eq_some_iff] at he
      obtain ⟨v, hv, he⟩ := he
      simp only [Option.map_some, Option.some.injEq] at he; subst he
      rw [hxe] at hx
      obtain ⟨us, hus, hsz, hc⟩ := hx
      have hlt : i < us.size := by rw [hsz]; exact (List.getElem?_eq_some_iff.1 hv).1
      exact eX h (z := us[i]) (v := v.drop) (by simp [execOp, hop, hus, Instr.extract, hlt]) (fun _ => aSu (hc i v _ hv (Array.getElem?_eq_getElem hlt))) hk
    · simp at he
  case call c =>
    cases hc : c.callee with
    | value g => exact aQU hD h hop hc he hk
    | invoke r m => simp only [cV, hop, hc] at he; simp at he
    | builtin b =>
      have he0 := he
      simp only [cV, hop, hc] at he
      split at he
      · rename_i x y hargs
        exact aOs h hop hc hargs he0 hk
      · rename_i x hargs
        have hargs' : c.args = #[x] := by rw [← hargs]
        rw [Option.map_eq_some_iff] at he
        obtain ⟨v, hv, rfl⟩ := he
        obtain ⟨z, hrun, hz⟩ := aTJ (P := P) (w := w) (F := F) (N := N) (ty := o.type) hv (fun l hl => (ev x).seeOf l hl) (fun b z lo n hb => (ev x).bslSee b z lo n hb)
        exact eX h (z := z) (v := v) (by simp [execOp, hop, resolve, hc, invoke, builtin, hargs', hrun]) (fun _ => qI hz) hk
      · rename_i x hargs
        exact aQl h hop hc hargs he0 hk
      · rename_i x y hargs
        have hargs' : c.args = #[x, y] := by rw [← hargs]
        rw [Option.map_eq_some_iff] at he
        obtain ⟨v, hv, rfl⟩ := he
        obtain ⟨z, hrun, hz⟩ := aPu (P := P) (w := w) (F := F) (N := N) (ts := c.argTypes) (ty := o.type) hv (lf x) (lf y)
        simp only [if_true] at hrun
        exact eX h (z := z) (v := v) (by simp [execOp, hop, resolve, hc, invoke, builtin, hargs', hrun]) (fun _ => qI hz) hk
      · rename_i x y hargs
        have hargs' : c.args = #[x, y] := by rw [← hargs]
        rw [Option.map_eq_some_iff] at he
        obtain ⟨v, hv, rfl⟩ := he
        obtain ⟨z, hrun, hz⟩ := aPu (P := P) (w := w) (F := F) (N := N) (ts := c.argTypes) (ty := o.type) hv (lf x) (lf y)
        simp only [Bool.false_eq_true, if_false] at hrun
        exact eX h (z := z) (v := v) (by simp [execOp, hop, resolve, hc, invoke, builtin, hargs', hrun]) (fun _ => qI hz) hk
      · simp at he
  all_goals (simp only [cV, hop] at he; simp at he)
end
end Go.Vs
end
section
namespace Go.Vs
variable {m : Bool}
variable {P : Program} {N : Env}
theorem aMA {D : (bK m)} {nt : Nat} {mv pu ta : Bool} {o : Oper} {ρ : Operand → (SV m)} {bs : (gU m)} {e : (Eff m)} (h : cV P D nt mv pu ta o ρ bs = some e) : (e.boxes.getD bs).length = bs.length := by
  have val : ∀ (v : Option (SV m)), v.map (fun v => (⟨qJ o.dst v, none⟩ : (Eff m))) = some e → (e.boxes.getD bs).length = bs.length := by
    intro v hv
    rw [Option.map_eq_some_iff] at hv
    obtain ⟨_, _, rfl⟩ := hv
    rfl
  cases hop : o.op
  case move x => simp only [cV, hop] at h; split at h <;> (simp only [Option.some.injEq] at h; subst h; rfl)
  case assign x => simp only [cV, hop] at h; split at h <;> (simp only [Option.some.injEq] at h; subst h; rfl)
  case pick c x y =>
    simp only [cV, hop] at h
    obtain ⟨b, _, h⟩ := uG h
    rw [nY] at h
    cases b <;> simp at h <;> subst h <;> rfl
  case box t x =>
    simp only [cV, hop] at h
    split at h
    · split at h
      · obtain ⟨_, h⟩ := aU h
        simp only [Option.some.injEq] at h; subst h; simp
      · simp at h
    · simp at h
  case alloc t =>
    simp only [cV, hop] at h
    split at h
    · split at h
      · obtain ⟨_, h⟩ := aU h
        rw [Option.map_eq_some_iff] at h
        obtain ⟨_, _, rfl⟩ := h
        simp
      · simp at h
    · simp at h
  case build t ps => exact val _ (by simpa only [cV, hop] using h)
  case buildSlice t n ps => exact val _ (by simpa only [cV, hop] using h)
  case load t x =>
    simp only [cV, hop] at h
    split at h
    · exact val _ h
    · obtain ⟨_, h⟩ := aU h
      exact val (some _) h
    · obtain ⟨_, h⟩ := aU h
      rw [Option.bind_eq_some_iff] at h
      obtain ⟨cs, _, h⟩ := h
      split at h
      · rw [Option.bind_eq_some_iff] at h
        obtain ⟨n, _, h⟩ := h
        split at h
        · rw [Option.map_eq_some_iff] at h
          obtain ⟨_, _, rfl⟩ := h
          rfl
        · simp at h
      · rw [Option.map_eq_some_iff] at h
        obtain ⟨c, _, h⟩ := h
        split at h <;> subst h <;> simp
    · simp at h
  case makeSlice t x y =>
    simp only [cV, hop] at h
    split at h
    · split at h
      · obtain ⟨_, h⟩ := aU h
        rw [Option.map_eq_some_iff] at h
        obtain ⟨_, _, rfl⟩ := h
        simp
      · simp at h
    · simp at h
  case store t x y =>
    simp only [cV, hop] at h
    split at h
    · split at h
      · exact val _ h
      · simp at h
    · rw [Option.bind_eq_some_iff] at h
      obtain ⟨cs, _, h⟩ := h
      rw [Option.bind_eq_some_iff] at h
      obtain ⟨n, _, h⟩ := h
      obtain ⟨_, h⟩ := aU h
      split at h
      · simp only [Option.some.injEq] at h; subst h; simp
      · simp at h
    · simp at h
  case nilCheck x =>
    simp only [cV, hop] at h
    split at h
    · exact val (some _) h
    · exact val (some _) h
    · exact val (some _) h
    · simp at h
  case binOp op t x y p => exact val _ (by simpa only [cV, hop] using h)
  case unOp op p x => exact val _ (by simpa only [cV, hop] using h)
  case convert src dst x => exact val _ (by simpa only [cV, hop] using h)
  case makeFunc fn first caps =>
    simp only [cV, hop] at h
    split at h
    · split at h
      · obtain ⟨_, h⟩ := aU h
        exact val (some _) h
      · simp at h
    · simp at h
  case slice t x lo hi mx =>
    simp only [cV, hop] at h
    split at h
    · rw [Option.bind_eq_some_iff] at h
      obtain ⟨_, _, h⟩ := h
      rw [Option.bind_eq_some_iff] at h
      obtain ⟨_, _, h⟩ := h
      exact val _ h
    · rw [Option.bind_eq_some_iff] at h
      obtain ⟨_, _, h⟩ := h
      rw [Option.bind_eq_some_iff] at h
      obtain ⟨_, _, h⟩ := h
      rw [Option.bind_eq_some_iff] at h
      obtain ⟨_, _, h⟩ := h
      exact val _ h
  case fieldAddr t x f => exact val _ (by simpa only [cV, hop] using h)
  case field t x f =>
    simp only [cV, hop] at h
    split at h
    · rw [Option.bind_eq_some_iff] at h
      obtain ⟨_, _, h⟩ := h
      exact val _ h
    · simp at h
  case indexAddr t x i => exact val _ (by simpa only [cV, hop] using h)
  case index t x i => exact val _ (by simpa only [cV, hop] using h)
  case extract x i =>
    simp only [cV, hop] at h
    split at h
    · rw [Option.bind_eq_some_iff] at h
      obtain ⟨_, _, h⟩ := h
      exact val (some _) h
    · simp at h
  case call c =>
    cases hc : c.callee with
    | invoke r m => simp only [cV, hop, hc] at h; simp at h
    | builtin b =>
      simp only [cV, hop, hc] at h
      split at h
      · rw [Option.map_eq_some_iff] at h
        obtain ⟨_, _, rfl⟩ := h
        rfl
      · exact val _ h
      · split at h
        · rw [Option.bind_eq_some_iff] at h
          obtain ⟨_, _, h⟩ := h
          rw [Option.map_eq_some_iff] at h
          obtain ⟨_, _, rfl⟩ := h
          simp
        · simp at h
      · exact val _ h
      · exact val _ h
      · simp at h
    | value g =>
      simp only [cV, hop, hc] at h
      split at h
      · obtain ⟨_, h⟩ := aU h
        rw [Option.map_eq_some_iff] at h
        obtain ⟨q, hq, rfl⟩ := h
        obtain ⟨_, cs, r, _, _, _, _, h2⟩ := aPM hq
        simp only
        rw [h2, aDt]
      · simp at h
  all_goals (simp only [cV, hop] at h; simp at h)
section
variable {D : (bK m)} {ops : Array Oper} {nt : Nat} {mv pu ta : Nat → Bool}
theorem aFB {mq p qa : Bool} {o : Oper} {s : (St m)} {e : (Eff m)} (h : mK P D nt mq p qa ops o s = some e) : (e.app s).boxes.length = s.boxes.length := by
  unfold mK at h
  split at h
  · exact aMA h
  · split at h
    · unfold pQ at h
      split at h
      · rw [nY] at h
        split at h
        · exact aMA h
        · simp only [Option.some.injEq] at h; subst h; rfl
      · simp only [Option.some.injEq] at h; subst h; rfl
      · simp at h
    · simp at h
theorem kS.trans {s1 s2 : (St m)} {a0 a1 a2 : Act} {w0 w1 w2 : World} {F0 : Fr} {O0 : Own} {b0 : Nat → Nat} (h : kS P N nt s1 a0 w0 F0 O0 b0 a1 w1)
    (k : ∀ F1 O1 b1, Inv P s1 a1.tmps w1 F1 N O1 b1 → kS P N nt s2 a1 w1 F1 O1 b1 a2 w2) : kS P N nt s2 a0 w0 F0 O0 b0 a2 w2 := by
  obtain ⟨F1, O1, b1, h1, h2, h3, h4⟩ := h
  obtain ⟨F2, O2, b2, k1, k2, k3, k4⟩ := k F1 O1 b1 h1
  exact ⟨F2, O2, b2, k1, h2.trans k2, fun b hb => (k3 b hb).trans (h3 b hb), k4.trans h4⟩
theorem kS.inv {s1 : (St m)} {a0 a1 : Act} {w0 w1 : World} {F0 : Fr} {O0 : Own} {b0 : Nat → Nat} (h : kS P N nt s1 a0 w0 F0 O0 b0 a1 w1) : ∃ F1 O1 b1, Inv P s1 a1.tmps w1 F1 N O1 b1 ∧
    (∀ (s2 : (St m)) (a2 : Act) (w2 : World), kS P N nt s2 a1 w1 F1 O1 b1 a2 w2 → kS P N nt s2 a0 w0 F0 O0 b0 a2 w2) := by
  obtain ⟨F1, O1, b1, h1, h2, h3, h4⟩ := h
  refine ⟨F1, O1, b1, h1, fun s2 a2 w2 => ?_⟩
  rintro ⟨F2, O2, b2, k1, k2, k3, k4⟩
  exact ⟨F2, O2, b2, k1, h2.trans k2, fun b hb => (k3 b hb).trans (h3 b hb), k4.trans h4⟩
theorem kS.refl {s : (St m)} {a : Act} {w : World} {F : Fr} {O : Own} {b : Nat → Nat} (h : Inv P s a.tmps w F N O b) : kS P N nt s a w F O b a w := ⟨F, O, b, h, Far.refl _ _ _, fun _ _ => rfl, rfl⟩
theorem aOW {s : (St m)} {a : Act} {w : World} {F : Fr} {Ow : Own} {bm : Nat → Nat} (h : Inv P s a.tmps w F N Ow bm) {j : Nat} {t : Tmp} (hj : (ops[j]?).bind (·.dst) = some t) {b : Bool} (hb : s.tmps.getD t .any = .leaf (.bool b)) :
    yielded ops a.tmps j = some b := by
  have hs := h.slot t
  rw [hb] at hs
  have hv := qU (hs.leafOf _ rfl)
  unfold yielded
  rw [hj]
  simp only [Option.bind_some]
  rcases Nat.lt_or_ge t a.tmps.size with hl | hl
  · rw [Array.getElem?_eq_getElem hl]
    have : a.tmps[t] = .bool b := by simpa [Array.getD, hl] using hv
    rw [this]
  · simp [Array.getD, Nat.not_lt.2 hl, undef] at hv
theorem aOI {s : (St m)} {a : Act} {w : World} {F : Fr} {Ow : Own} {bm : Nat → Nat} (h : Inv P s a.tmps w F N Ow bm) {j : Nat} {t : Tmp} (hj : (ops[j]?).bind (·.dst) = some t) (hb : s.tmps.getD t .any = .skip) :
    yielded ops a.tmps j = none := by
  have hs := h.slot t
  rw [hb] at hs
  have hv : a.tmps.getD t undef = undef := by simpa only [aR, dF] using hs
  unfold yielded
  rw [hj]
  simp only [Option.bind_some]
  rcases Nat.lt_or_ge t a.tmps.size with hl | hl
  · rw [Array.getElem?_eq_getElem hl]
    have : a.tmps[t] = undef := by simpa [Array.getD, hl] using hv
    rw [this]
    rfl
  · rw [Array.getElem?_eq_none hl]
theorem aMh (hD : lS P N D) {s : (St m)} {a : Act} {w : World} {F : Fr} {Ow : Own} {bm : Nat → Nat} (h : Inv P s a.tmps w F N Ow bm) (hnt : nt ≤ s.boxes.length) {i : Nat} {o : Oper} (ho : ops[i]? = some o) {mq p qa : Bool} {e : (Eff m)}
    (he : mK P D nt mq p qa ops o s = some e) {K : Act → World → Prop} {Q : Exit → Act → World → Prop} (hk : ∀ a' w', kS P N nt (e.app s) a w F Ow bm a' w' → K a' w') : wpOp P ops Q i K a w := by
  unfold wpOp
  rw [ho]
  simp only
  have run : cV P D nt mq p qa o s.eval s.boxes = some e → Region.wanted o (yielded ops a.tmps) = true →
      if Region.wanted o (yielded ops a.tmps) = true then o.wp P a w K Q ∨ (o.asks P a w ∧ LetsOut Q) else K (a.put o.dst undef) w := by
    intro he hw
    rw [if_pos hw]
    exact .inl (aSX hD h hnt he hk)
  have pass : (⟨qJ o.dst .skip, none⟩ : (Eff m)) = e → Region.wanted o (yielded ops a.tmps) = false →
      if Region.wanted o (yielded ops a.tmps) = true then o.wp P a w K Q ∨ (o.asks P a w ∧ LetsOut Q) else K (a.put o.dst undef) w := by
    rintro rfl hw
    rw [if_neg (by rw [hw]; simp)]
    refine hk _ _ ⟨F, Ow, bm, ?_, Far.refl _ _ _, fun _ _ => rfl, gQ _ _⟩
    rw [aJa]
    exact Inv.put (a := a) h fun d _ => by simp only [aR, dF]
  unfold mK at he
  split at he
  · rename_i hg
    exact run he (by simp [Region.wanted, hg])
  · rename_i j want hg
    split at he
    · rename_i t ht
      unfold pQ at he
      split at he
      · rename_i b hb
        have hy := aOW h ht hb
        rw [nY] at he
        split at he
        · rename_i hbw
          exact run he (by simp [Region.wanted, hg, hy]; simpa using hbw)
        · rename_i hbw
          exact pass (by simpa using he) (by simp [Region.wanted, hg, hy]; simpa using hbw)
      · rename_i hb
        have hy := aOI h ht hb
        exact pass (by simpa using he) (by simp [Region.wanted, hg, hy])
      · simp at he
    · simp at he
theorem aSp (hD : lS P N D) {s' : (St m)} {Q : Exit → Act → World → Prop} : ∀ (fuel : Nat) (listed : Array Bool) (s : (St m)) (a : Act) (w : World) (F : Fr) (Ow : Own) (bm : Nat → Nat), Inv P s a.tmps w F N Ow bm → nt ≤ s.boxes.length →
    aSh P D nt mv pu ta ops (· = s') fuel listed s → (∀ a' w', kS P N nt s' a w F Ow bm a' w' → Q .normal a' w') → wpAny P .any ops Q fuel listed a w := by
  intro fuel
  induction fuel with
  | zero =>
    intro listed s a w F Ow bm h _ hA hk
    obtain ⟨h1, rfl⟩ := hA
    exact ⟨h1, hk a w (kS.refl h)⟩
  | succ fuel ih =>
    intro listed s a w F Ow bm h hnt hA hk
    refine ⟨fun h0 => ?_, fun i hi => ?_⟩
    · obtain rfl := hA.1 h0
      exact hk a w (kS.refl h)
    · obtain ⟨o, e, ho, he, hrest⟩ := hA.2 i hi
      refine aMh hD h hnt ho he fun a' w' hst => ?_
      obtain ⟨F1, O1, b1, h1, htr⟩ := hst.inv
      exact ih _ _ a' w' F1 O1 b1 h1 (by rw [aFB he]; exact hnt) hrest fun a2 w2 h2 => hk a2 w2 (htr _ _ _ h2)
theorem aPJ (hD : lS P N D) {s' : (St m)} {Q : Exit → Act → World → Prop} : ∀ (l : List Oper) (k : Nat) (s : (St m)) (a : Act) (w : World) (F : Fr) (Ow : Own) (bm : Nat → Nat), (∀ j, l[j]? = ops[k + j]?) → Inv P s a.tmps w F N Ow bm → nt ≤ s.boxes.length →
    kY P D nt mv pu ta ops l k s some = some s' → (∀ a' w', kS P N nt s' a w F Ow bm a' w' → Q .normal a' w') → wpOps P ops Q (List.range' k l.length) a w := by
  intro l
  induction l with
  | nil =>
    intro k s a w F Ow bm _ h _ hs hk
    simp only [kY, Option.some.injEq] at hs
    subst hs
    exact hk a w (kS.refl h)
  | cons o l ih =>
    intro k s a w F Ow bm hl h hnt hs hk
    have h0 : ops[k]? = some o := by simpa using (hl 0).symm
    simp only [kY, aAa] at hs
    obtain ⟨e, he, hrest⟩ := Option.bind_eq_some_iff.1 hs
    rw [List.length_cons, List.range'_succ, wpOps_cons]
    refine aMh hD h hnt h0 he fun a' w' hst => ?_
    obtain ⟨F1, O1, b1, h1, htr⟩ := hst.inv
    exact ih (k + 1) _ a' w' F1 O1 b1 (fun j => by have := hl (j + 1); simpa [Nat.add_assoc, Nat.add_comm 1 j] using this) h1 (by rw [aFB he]; exact hnt) hrest fun a2 w2 h2 => hk a2 w2 (htr _ _ _ h2)
theorem mT {β : Type} : ∀ (l : List Oper) (i : Nat) (s : (St m)) (k : (St m) → Option β), kY P D nt mv pu ta ops l i s k = (kY P D nt mv pu ta ops l i s some).bind k
  | [], i, s, k => rfl
  | o :: l, i, s, k => by
    simp only [kY, aAa, Option.bind_assoc]
    congr 1
    funext e
    exact mT l (i + 1) _ k
theorem aIh : ∀ (l : List Oper) (i : Nat) (s s' : (St m)), kY P D nt mv pu ta ops l i s some = some s' → s'.boxes.length = s.boxes.length
  | [], i, s, s', h => by simp only [kY, Option.some.injEq] at h; subst h; rfl
  | o :: l, i, s, s', h => by
    simp only [kY, aAa] at h
    obtain ⟨e, he, hrest⟩ := Option.bind_eq_some_iff.1 h
    rw [aIh l (i + 1) _ s' hrest, aFB he]
theorem aTB {s : (St m)} {tmps : Array Value} {w : World} {F : Fr} {Ow : Own} {bm : Nat → Nat} (h : Inv P s tmps w F N Ow bm) : Inv P s tmps { w with drawn := w.drawn + 1 } F N Ow bm ∧ Far N w F Ow { w with drawn := w.drawn + 1 } F Ow := by
  have hk : eN N w F { w with drawn := w.drawn + 1 } F := .mk' (fun _ _ _ => rfl) (fun _ => Nat.le_refl _) (fun _ h => h) fun _ _ h => h
  exact ⟨h.to hk (Nat.le_refl _) (fun _ _ => rfl) (fun g loc hg _ => ⟨rfl, rfl, hg⟩) (fun g hg => h.new g hg) h.zow, ⟨rfl, rfl, rfl, Nat.le_refl _, hk, fun g _ hg => ⟨fun _ => rfl, rfl, hg⟩⟩⟩
theorem aPg (hP : P.follows .mixedOrders = true) (hD : lS P N D) {s s' : (St m)} {a : Act} {w : World} {F : Fr} {Ow : Own} {bm : Nat → Nat} {id : Nat} {draw : Bool} (h : Inv P s a.tmps w F N Ow bm) (hnt : nt ≤ s.boxes.length)
    (hd : draw = true → aAf mv pu ta ops = true) (hs : kY P D nt mv pu ta ops ops.toList 0 s some = some s') {Q : Exit → Act → World → Prop} (hk : ∀ a' w', kS P N nt s' a w F Ow bm a' w' → Q .normal a' w') : (Code.region id ops draw).wp P Q a w := by
  cases draw with
  | false =>
    refine wp_region ?_
    have := aPJ (mv := mv) (pu := pu) (Q := Q) hD ops.toList 0 s a w F Ow bm (fun j => by simp) h hnt hs hk
    rwa [← List.range_eq_range', Array.length_toList] at this
  | true =>
    obtain ⟨h1, h2⟩ := aTB h
    refine wp_region_any hP ?_
    refine aSp hD ops.size _ s a _ F Ow bm h1 hnt (aQG (hd rfl) hs) fun a' w' hst => hk a' w' ?_
    obtain ⟨F1, O1, b1, k1, k2, k3, k4⟩ := hst
    exact ⟨F1, O1, b1, k1, h2.trans k2, k3, k4⟩
end
end Go.Vs
end
section
namespace Go.Vs
variable {m : Bool}
variable {P : Program} {N : Env}
theorem aNb (ts : List Nat) : ∀ (l : List (SV m)) (t : Nat), (ts.foldl (fun l t => l.set t .any) l).length = l.length ∧
    ((ts.foldl (fun l t => l.set t .any) l).getD t .any = .any ∨ (ts.foldl (fun l t => l.set t .any) l).getD t .any = l.getD t .any) := by
  induction ts with
  | nil => intro l t; exact ⟨rfl, .inr rfl⟩
  | cons u ts ih =>
    intro l t
    obtain ⟨h1, h2⟩ := ih (l.set u .any) t
    refine ⟨by rw [List.foldl_cons, h1]; simp, ?_⟩
    rw [List.foldl_cons]
    rcases h2 with h2 | h2
    · exact .inl h2
    · rw [h2]
      by_cases hu : t = u
      · subst hu
        left
        by_cases hl : t < l.length
        · rw [List.getD_eq_getElem?_getD, List.getElem?_set_self hl]; rfl
        · rw [List.getD_eq_getElem?_getD, List.getElem?_eq_none (by simpa using hl)]; rfl
      · right
        rw [List.getD_eq_getElem?_getD, List.getElem?_set_ne (fun e => hu e.symm), ← List.getD_eq_getElem?_getD]
theorem aKG (bs : List Nat) : ∀ (l : (gU m)), (bs.foldl (fun l b => l.set b none) l).length = l.length ∧ ∀ b, (b ∉ bs → aW (bs.foldl (fun l b => l.set b none) l) b = aW l b) ∧ (b ∈ bs → aW (bs.foldl (fun l b => l.set b none) l) b = none) := by
  induction bs with
  | nil => intro l; exact ⟨rfl, fun b => ⟨fun _ => rfl, by simp⟩⟩
  | cons c bs ih =>
    intro l
    obtain ⟨h1, h2⟩ := ih (l.set c none)
    refine ⟨by rw [List.foldl_cons, h1]; simp, fun b => ⟨fun hb => ?_, fun hb => ?_⟩⟩
    · rw [List.mem_cons, not_or] at hb
      rw [List.foldl_cons, (h2 b).1 hb.2, iW hb.1]
    · rw [List.foldl_cons]
      by_cases hb2 : b ∈ bs
      · exact (h2 b).2 hb2
      · have : b = c := by
          rcases List.mem_cons.1 hb with h | h
          · exact h
          · exact absurd h hb2
        subst this
        rw [(h2 b).1 hb2]
        by_cases hl : b < l.length
        · rw [eS hl]
        · unfold aW
          rw [List.getD_eq_getElem?_getD, List.getElem?_eq_none (by simpa using hl)]; rfl
theorem dF.fewer {w : World} {F : Fr} {bm : Nat → Nat} {al al' : Nat → Bool} {bs : List Nat} {x : (SV m)} {v : Value} (h : dF w F N bm al x v) (hn : x.noPtr bs = true) (ha : ∀ b, b ∉ bs → al b = true → al' b = true) : dF w F N bm al' x v := by
  cases x with
  | ptr b o =>
    simp only [dF] at h ⊢
    exact ⟨h.1, ha b (by simpa [SV.noPtr] using hn) h.2⟩
  | bsl b z lo n =>
    simp only [dF] at h ⊢
    exact ⟨h.1, ha b (by simpa [SV.noPtr] using hn) h.2⟩
  | kfn f cs =>
    obtain ⟨g, o, vs, e, ho, hc, hs, hr⟩ := h
    refine ⟨g, o, vs, e, ho, hc, hs, fun j c u a b => ?_⟩
    have := hr j c u a b
    cases c with
    | none => exact this
    | some p =>
      have hp : p.1 ∈ aJX cs := List.mem_flatMap.2 ⟨_, List.mem_of_getElem? a, by simp⟩
      have := List.all_eq_true.1 hn p.1 hp
      exact ⟨‹_ ∧ _›.1, ha p.1 (by simpa using this) ‹_ ∧ _›.2⟩
  | _ => exact h
theorem aR.fewer {w : World} {F : Fr} {Ow : Own} {bm : Nat → Nat} {al al' : Nat → Bool} {bs : List Nat} {loc : Loc} {x : (SV m)} {v : Value} (h : aR P w F N Ow bm al loc x v) (hn : x.noBox bs = true) (ha : ∀ b, b ∉ bs → al b = true → al' b = true) : aR P w F N Ow bm al' loc x v := by
  cases x with
  | ptr b o =>
    have h' : dF (m := m) w F N bm al (.ptr b o) v := by simpa only [aR] using h
    simpa only [aR] using h'.fewer hn ha
  | bsl b z lo n =>
    have h' : dF (m := m) w F N bm al (.bsl b z lo n) v := by simpa only [aR] using h
    simpa only [aR] using h'.fewer hn ha
  | fn g caps =>
    obtain ⟨vs, e, hs, hc⟩ := h
    exact ⟨vs, e, hs, fun j c u a b => (hc j c u a b).fewer (List.all_eq_true.1 hn c (List.mem_of_getElem? a)) ha⟩
  | tup cs =>
    obtain ⟨vs, e, hs, hc⟩ := h
    exact ⟨vs, e, hs, fun j c u a b => (hc j c u a b).fewer (List.all_eq_true.1 hn c (List.mem_of_getElem? a)) ha⟩
  | own eo es => exact h
  | raw eo es => exact h
  | leaf l => exact h
  | agg cs => exact h
  | nilptr => exact h
  | nilface => exact h
  | any => exact h
  | skip => exact h
  | eptr c e o => exact h
  | kfn f cs =>
    have h' : dF (m := m) w F N bm al (.kfn f cs) v := by simpa only [aR] using h
    simpa only [aR] using h'.fewer hn ha
section
variable {s : (St m)} {a : Act} {w : World} {F : Fr} {Ow : Own} {bm : Nat → Nat} {nt : Nat}
theorem Inv.again {tmps : Array Value} (h : Inv P s tmps w F N Ow bm) {ts bs : List Nat} {s' : (St m)} (hs : s.again ts bs = some s') : Inv P s' tmps w F N Ow bm ∧ s'.boxes.length = s.boxes.length := by
  unfold St.again at hs
  obtain ⟨hn, hs⟩ := aU hs
  simp only [Option.some.injEq] at hs
  subst hs
  obtain ⟨hl, hb⟩ := aKG bs s.boxes
  refine ⟨?_, hl⟩
  have slotRep : ∀ t, aR P w F N Ow bm s.al (.tmp t) ((s.forget ts bs).tmps.getD t .any) (tmps.getD t undef) := by
    intro t
    rcases (aNb ts s.tmps t).2 with h2 | h2
    · show aR P w F N Ow bm s.al (.tmp t) ((ts.foldl (fun l t => l.set t .any) s.tmps).getD t .any) _
      rw [h2]; exact aR.any
    · show aR P w F N Ow bm s.al (.tmp t) ((ts.foldl (fun l t => l.set t .any) s.tmps).getD t .any) _
      rw [h2]; exact h.slot t
  have ha : ∀ b, b ∉ bs → s.al b = true → (s.forget ts bs).al b = true := by
    intro b hb' hal
    show (aW (bs.foldl (fun l b => l.set b none) s.boxes) b).isSome = true
    rw [(hb b).1 hb']; exact hal
  have hbox : ∀ b cs, aW (s.forget ts bs).boxes b = some cs → b ∉ bs ∧ aW s.boxes b = some cs := by
    intro b cs hbc
    have hbc' : aW (bs.foldl (fun l b => l.set b none) s.boxes) b = some cs := hbc
    by_cases hm : b ∈ bs
    · rw [(hb b).2 hm] at hbc'; simp at hbc'
    · rw [(hb b).1 hm] at hbc'; exact ⟨hm, hbc'⟩
  unfold St.noBox at hn
  rw [Bool.or_eq_true] at hn
  have fewer : ∀ (loc : Loc) (x : (SV m)) (v : Value), (bs.isEmpty = false → x.noBox bs = true) → aR P w F N Ow bm s.al loc x v → aR P w F N Ow bm (s.forget ts bs).al loc x v := by
    intro loc x v hx hr
    cases hbe : bs.isEmpty with
    | false => exact hr.fewer (hx hbe) ha
    | true =>
      have : bs = [] := by simpa using hbe
      subst this
      exact hr
  refine ⟨by rw [← h.len]; exact (aNb ts s.tmps 0).1, fun t => ?_, fun b cs hbc => ?_, h.low, h.new, fun b cs hbc => h.bmn b cs (hbox b cs hbc).2, h.zow⟩
  · refine fewer _ _ _ (fun hbe => ?_) (slotRep t)
    rcases hn with hn | hn
    · rw [hbe] at hn; simp at hn
    · rw [Bool.and_eq_true] at hn
      rcases Nat.lt_or_ge t (s.forget ts bs).tmps.length with ht | ht
      · rw [List.getD_eq_getElem?_getD, List.getElem?_eq_getElem ht]
        exact List.all_eq_true.1 hn.1 _ (List.getElem_mem ht)
      · rw [List.getD_eq_getElem?_getD, List.getElem?_eq_none ht]; rfl
  · obtain ⟨hm, hbc'⟩ := hbox b cs hbc
    rcases h.box b cs hbc' with g0 | ⟨cur, e, g1, g2, g3, g4, g5⟩
    · exact .inl g0
    refine .inr ⟨cur, e, g1, g2, g3, g4, fun j c u hc hu => fewer _ _ _ (fun hbe => ?_) (g5 j c u hc hu)⟩
    rcases hn with hn | hn
    · rw [hbe] at hn; simp at hn
    · rw [Bool.and_eq_true] at hn
      have hlt := rH hbc
      have : (s.forget ts bs).boxes[b]? = some (some cs) := by
        have hbc2 := hbc
        unfold aW at hbc2
        rw [List.getD_eq_getElem?_getD, List.getElem?_eq_getElem hlt] at hbc2
        rw [List.getElem?_eq_getElem hlt]
        simpa using hbc2
      have h1 := List.all_eq_true.1 hn.2 _ (List.mem_of_getElem? this)
      exact List.all_eq_true.1 h1 c (List.mem_of_getElem? hc)
theorem Inv.tidy {tmps : Array Value} (h : Inv P s tmps w F N Ow bm) (ts bs : List Nat) : Inv P (s.tidy ts bs) tmps w F N Ow bm ∧ (s.tidy ts bs).boxes.length = s.boxes.length := by
  have h0 := h.again (ts := ts) (bs := []) (by simp [St.again, St.noBox, aA]; rfl)
  cases bs with
  | nil => exact h0
  | cons b bs =>
    simp only [St.tidy]
    cases hs : s.again ts ((b :: bs).filter fun b => !(s.forget ts []).refs.contains b) with
    | some s' => exact h.again hs
    | none => exact h0
theorem kS.tidy {s' : (St m)} {a' : Act} {w' : World} (h : kS P N nt s' a w F Ow bm a' w') (ts bs : List Nat) : kS P N nt (s'.tidy ts bs) a w F Ow bm a' w' := by
  obtain ⟨F1, O1, b1, h1, h2⟩ := h
  exact ⟨F1, O1, b1, (h1.tidy ts bs).1, h2⟩
theorem Inv.dropC {tmps : Array Value} (h : Inv P s tmps w F N Ow bm) (d : Nat → List Nat × List Nat) (c : Operand) : Inv P (s.dropC d c) tmps w F N Ow bm ∧ (s.dropC d c).boxes.length = s.boxes.length := by
  cases c with
  | tmp t =>
    exact h.tidy (d t).1 (d t).2
  | _ => exact ⟨h, rfl⟩
theorem aQB (s : (St m)) (ts bs : List Nat) : (s.tidy ts bs).boxes.length = s.boxes.length := by
  have key : ∀ (s : (St m)) ts bs, (s.forget ts bs).boxes.length = s.boxes.length := fun s ts bs => (aKG bs s.boxes).1
  cases bs with
  | nil => exact key _ _ _
  | cons b bs =>
    simp only [St.tidy]
    cases hs : s.again ts ((b :: bs).filter fun b => !(s.forget ts []).refs.contains b) with
    | some s' =>
      unfold St.again at hs
      obtain ⟨_, hs⟩ := aU hs
      simp only [Option.some.injEq] at hs
      subst hs
      exact key _ _ _
    | none => exact key _ _ _
theorem zT : ∀ {cs : List (SV m)} {ls : List (aC m)}, cM cs = some ls → ls.length = cs.length
  | [], ls, h => by simp only [cM, Option.some.injEq] at h; subst h; rfl
  | c :: r, ls, h => by
    simp only [cM, Option.bind_eq_some_iff, Option.map_eq_some_iff] at h
    obtain ⟨l, _, ls', h1, rfl⟩ := h
    simp [zT h1]
theorem aK4 : ∀ {cs : List (SV m)} {ls : List (aC m)} {j : Nat} {l : aC m}, cM cs = some ls → ls[j]? = some l → ∃ c, cs[j]? = some c ∧ asLeaf c = some l
  | [], ls, j, l, h, hj => by simp only [cM, Option.some.injEq] at h; subst h; simp at hj
  | c :: r, ls, j, l, h, hj => by
    simp only [cM, Option.bind_eq_some_iff, Option.map_eq_some_iff] at h
    obtain ⟨l', h0, ls', h1, rfl⟩ := h
    cases j with
    | zero => simp at hj; subst hj; exact ⟨c, rfl, h0⟩
    | succ j => simp at hj; obtain ⟨c', a, b⟩ := aK4 h1 hj; exact ⟨c', by simpa using a, b⟩
theorem aR.asLeaf {w : World} {F : Fr} {Ow : Own} {bm : Nat → Nat} {al : Nat → Bool} {loc : Loc} {x : (SV m)} {v : Value} {l : aC m} (h : aR P w F N Ow bm al loc x v) (hl : asLeaf x = some l) : eB w F N l v := by
  cases x <;> simp only [Vs.asLeaf, Option.some.injEq] at hl <;> try (cases hl; done)
  · subst hl; exact h
  · subst hl; exact lO.leaf h
theorem aJ4 {b : Nat} : ∀ {caps : List (SV m)} {cs : List (Option (Nat × Nat))}, aGP b caps = some cs → caps.length = cs.length
  | [], cs, h => by simp only [aGP, Option.some.injEq] at h; subst h; rfl
  | x :: r, cs, h => by
    cases x <;> simp only [aGP] at h <;> try (simp at h; done)
    split at h
    · split at h
      · obtain ⟨l, h1, rfl⟩ := Option.map_eq_some_iff.1 h
        simp [aJ4 h1]
      · simp at h
    · obtain ⟨l, h1, rfl⟩ := Option.map_eq_some_iff.1 h
      simp [aJ4 h1]
theorem aKe {b : Nat} : ∀ {caps : List (SV m)} {cs : List (Option (Nat × Nat))} {j : Nat} {c : Option (Nat × Nat)}, aGP b caps = some cs → cs[j]? = some c →
    ∃ x, caps[j]? = some x ∧ match c with | none => x = .ptr b 0 | some p => x = .ptr p.1 p.2 ∧ p.1 ≠ b
  | [], cs, j, c, h, hj => by simp only [aGP, Option.some.injEq] at h; subst h; simp at hj
  | x :: r, cs, j, c, h, hj => by
    cases x <;> simp only [aGP] at h <;> try (simp at h; done)
    split at h
    · rename_i hb
      split at h
      · rename_i ho
        obtain ⟨l, h1, rfl⟩ := Option.map_eq_some_iff.1 h
        cases j with
        | zero => simp at hj; subst hj; exact ⟨_, rfl, by rw [hb, ho]⟩
        | succ j => obtain ⟨x, a, k⟩ := aKe h1 (by simpa using hj); exact ⟨x, by simpa using a, k⟩
      · simp at h
    · rename_i hb
      obtain ⟨l, h1, rfl⟩ := Option.map_eq_some_iff.1 h
      cases j with
      | zero => simp at hj; subst hj; exact ⟨_, rfl, rfl, hb⟩
      | succ j => obtain ⟨x, a, k⟩ := aKe h1 (by simpa using hj); exact ⟨x, by simpa using a, k⟩
theorem dF.kal {w : World} {F : Fr} {bm : Nat → Nat} {al : Nat → Bool} {b : Nat} {f : FuncId} {cs : List (Option (Nat × Nat))} {v : Value} (h : dF (m := m) w F N bm al (.kfn f cs) v) (hb : b ∈ aJX cs) : al b = true := by
  obtain ⟨g, o, vs, e, ho, hc, hs, hr⟩ := h
  obtain ⟨c, hc, hbc⟩ := List.mem_flatMap.1 hb
  obtain ⟨j, hj, hjc⟩ := List.getElem_of_mem hc
  have hu : vs[j]? = some (vs[j]'(by rw [hs]; exact hj)) := Array.getElem?_eq_getElem _
  have := hr j c _ (by rw [List.getElem?_eq_getElem hj, hjc]) hu
  cases c with
  | none => simp at hbc
  | some p =>
    have hb1 : b = p.1 := by simpa using hbc
    rw [hb1]
    exact this.2
theorem dF.kfew {w : World} {F : Fr} {bm : Nat → Nat} {al al' : Nat → Bool} {b : Nat} {f : FuncId} {cs : List (Option (Nat × Nat))} {v : Value} (h : dF (m := m) w F N bm al (.kfn f cs) v) (hn : b ∉ aJX cs) (ha : ∀ b', b' ≠ b → al b' = true → al' b' = true) : dF (m := m) w F N bm al' (.kfn f cs) v := by
  obtain ⟨g, o, vs, e, ho, hc, hs, hr⟩ := h
  refine ⟨g, o, vs, e, ho, hc, hs, fun j c u a k => ?_⟩
  have := hr j c u a k
  cases c with
  | none => exact this
  | some p =>
    have hp : p.1 ∈ aJX cs := List.mem_flatMap.2 ⟨_, List.mem_of_getElem? a, by simp⟩
    obtain ⟨h1, h2⟩ := (this : u = .pointer (some ⟨bm p.1, p.2, none⟩) ∧ al p.1 = true)
    exact ⟨h1, ha p.1 (fun hx => hn (hx ▸ hp)) h2⟩
theorem dF.to_s {w : World} {F : Fr} {Ow : Own} {bm : Nat → Nat} {al : Nat → Bool} {loc : Loc} {x : (SV m)} {v : Value} (h : dF w F N bm al x v) : aR P w F N Ow bm al loc x v := by
  cases x <;> first | exact h | exact h.elim
theorem dF.frz {F' : Fr} {al al' : Nat → Bool} {b : Nat} {ls : List (aC m)} {vals : List Value} (hF : ∀ g, F g ≤ F' g) (hb : ls.length ≤ F' (bm b)) (hn : N.n ≤ bm b) (hr : cU w F' N ls vals) (hc : ∀ (j : Nat) (u : Value), vals[j]? = some u → w.cell? ⟨bm b, j, none⟩ = some u)
    (ha : ∀ b', b' ≠ b → al b' = true → al' b' = true) {x : (SV m)} {v : Value} (h : dF w F N bm al x v) : dF w F' N bm al' (x.frzF b ls) v := by
  have k : eN N w F w F' := .mk' (fun _ _ _ => rfl) hF (fun _ h => h) fun _ _ h => h
  have h := h.keeps k
  cases x with
  | ptr b' o =>
    simp only [SV.frzF]
    simp only [dF] at h
    split
    · rename_i e
      subst e
      refine ⟨bm b', 0, vals, by rw [Nat.zero_add]; exact h.1, by omega, ⟨by cases m <;> trivial, fun hz => absurd (N.lt _ hz) (by omega)⟩, hr, fun j u hj => by rw [Nat.zero_add]; exact hc j u hj⟩
    · rename_i e
      exact ⟨h.1, ha _ e h.2⟩
  | bsl b' z lo n =>
    simp only [SV.frzF]
    split
    · trivial
    · rename_i e
      exact ⟨h.1, ha _ e h.2⟩
  | kfn f cs =>
    simp only [SV.frzF]
    split
    · trivial
    · rename_i e
      exact h.kfew (by simpa using e) ha
  | _ => exact h
theorem dF.frk {F' : Fr} {al al' : Nat → Bool} {b : Nat} {f : FuncId} {caps : List (SV m)} {cs : List (Option (Nat × Nat))} {vs : Array Value} (hF : ∀ g, F g ≤ F' g) (hb : 0 < F' (bm b)) (hn : N.n ≤ bm b) (hk : aGP b caps = some cs)
    (hc : w.cell? ⟨bm b, 0, none⟩ = some (.func (.func f) #[] vs)) (hs : vs.size = caps.length) (hr : ∀ (j : Nat) (c : (SV m)) (u : Value), caps[j]? = some c → vs[j]? = some u → dF w F N bm al c u)
    (ha : ∀ b', b' ≠ b → al b' = true → al' b' = true) {x : (SV m)} {v : Value} (h : dF w F N bm al x v) : dF w F' N bm al' (x.frkF b f cs) v := by
  have k : eN N w F w F' := .mk' (fun _ _ _ => rfl) hF (fun _ h => h) fun _ _ h => h
  have h := h.keeps k
  cases x with
  | ptr b' o =>
    simp only [SV.frkF]
    simp only [dF] at h
    split
    · rename_i e
      subst e
      split
      · rename_i e0
        subst e0
        refine ⟨bm b', 0, vs, h.1, ⟨hb, by cases hz : N.Z (bm b') with | false => rfl | true => exact absurd (N.lt _ hz) (by omega)⟩, hc, by rw [hs, aJ4 hk], fun j c u hj hu => ?_⟩
        rw [h.1]
        obtain ⟨c0, h0, h1⟩ := aKe hk hj
        have := hr j c0 u h0 hu
        cases c with
        | none =>
          obtain rfl : c0 = .ptr b' 0 := h1
          exact this.1
        | some p =>
          obtain ⟨rfl, hne⟩ : c0 = .ptr p.1 p.2 ∧ p.1 ≠ b' := h1
          exact ⟨this.1, ha _ hne this.2⟩
      · trivial
    · rename_i e
      exact ⟨h.1, ha _ e h.2⟩
  | bsl b' z lo n =>
    simp only [SV.frkF]
    split
    · trivial
    · rename_i e
      exact ⟨h.1, ha _ e h.2⟩
  | kfn f' cs' =>
    simp only [SV.frkF]
    split
    · trivial
    · rename_i e
      exact h.kfew (by simpa using e) ha
  | _ => exact h
theorem Inv.froz {tmps : Array Value} (h : Inv P s tmps w F N Ow bm) {b : Nat} {cs : List (SV m)} (hcs : aW s.boxes b = some cs) (hne : cs ≠ []) (φ : (SV m) → (SV m)) (hany : φ .any = .any)
    (fr : ∀ (al' : Nat → Bool), (∀ b', b' ≠ b → s.al b' = true → al' b' = true) → ∀ (x : (SV m)) (v : Value), dF w F N bm s.al x v → dF w (fun g => if g = bm b then cs.length else F g) N bm al' (φ x) v) :
    ∃ F' Ow', Inv P (s.froz b φ) tmps w F' N Ow' bm ∧ Far N w F Ow w F' Ow' := by
  obtain ⟨cur, e, g1, g2, g3, g4, g5⟩ := (h.box b cs hcs).resolve_left hne
  have hlt := rH hcs
  let F' : Fr := fun g => if g = bm b then cs.length else F g
  let Ow' : Own := fun g => if g = bm b then none else Ow g
  have hF : ∀ g, F g ≤ F' g := fun g => by
    show F g ≤ if g = bm b then cs.length else F g
    split
    · rename_i hg; rw [hg, g3]; exact Nat.zero_le _
    · exact Nat.le_refl _
  have kp : eN N w F w F' := .mk' (fun _ _ _ => rfl) hF (fun _ h => h) fun _ _ h => h
  let al' : Nat → Bool := fun b' => (aW ((s.boxes.set b none).map (Option.map (List.map (SV.lift φ)))) b').isSome
  have bat : ∀ b', aW ((s.boxes.set b none).map (Option.map (List.map (SV.lift φ)))) b' = if b' = b then none else (aW s.boxes b').map (List.map (SV.lift φ)) := fun b' => by
    have e1 : aW ((s.boxes.set b none).map (Option.map (List.map (SV.lift φ)))) b' = (aW (s.boxes.set b none) b').map (List.map (SV.lift φ)) := by
      unfold aW
      rw [List.getD_eq_getElem?_getD, List.getD_eq_getElem?_getD, List.getElem?_map]
      cases (s.boxes.set b none)[b']? <;> rfl
    rw [e1]
    split
    · rename_i hb; subst hb; rw [eS hlt]; rfl
    · rename_i hb; rw [iW hb]
  have ha : ∀ b', b' ≠ b → s.al b' = true → al' b' = true := fun b' hb hal => by
    show (aW ((s.boxes.set b none).map (Option.map (List.map (SV.lift φ)))) b').isSome = true
    rw [bat, if_neg hb]
    have : (aW s.boxes b').isSome = true := hal
    cases hx : aW s.boxes b' with
    | none => rw [hx] at this; simp at this
    | some y => rfl
  have fr := fr al' ha
  have hOw : ∀ (loc : Loc), (∀ k, loc ≠ .blk k) → ∀ g, Ow g = some loc → w.heap[g]? = w.heap[g]? ∧ F' g = F g ∧ Ow' g = some loc := fun loc hloc g hg => by
    have hgb : g ≠ bm b := fun hx => by
      subst hx
      rw [g4] at hg
      simp only [Option.some.injEq] at hg
      exact hloc b hg.symm
    exact ⟨rfl, if_neg hgb, by show (if g = bm b then none else Ow g) = _; rw [if_neg hgb]; exact hg⟩
  have conv : ∀ (loc : Loc) (x : (SV m)) (v : Value), (∀ k, loc ≠ .blk k) → aR P w F N Ow bm s.al loc x v → aR P w F' N Ow' bm al' loc (x.lift φ) v := fun loc x v hloc hx => by
    have many : ∀ (l : List (SV m)) (vs : Array Value), (∀ (j : Nat) (c : (SV m)) (u : Value), l[j]? = some c → vs[j]? = some u → dF w F N bm s.al c u) →
        ∀ (j : Nat) (c : (SV m)) (u : Value), (l.map φ)[j]? = some c → vs[j]? = some u → dF w F' N bm al' c u := fun l vs hl j c u hj hu => by
      simp only [List.getElem?_map, Option.map_eq_some_iff] at hj
      obtain ⟨c', hc', rfl⟩ := hj
      exact fr _ _ (hl j c' u hc' hu)
    cases x with
    | own eo es => exact lO.keeps kp hx (hOw loc hloc)
    | raw eo es => exact lO.keeps kp hx (hOw loc hloc)
    | fn g caps =>
      obtain ⟨vs, e1, e2, e3⟩ := hx
      exact ⟨vs, e1, by simpa using e2, many _ _ e3⟩
    | tup cs =>
      obtain ⟨vs, e1, e2, e3⟩ := hx
      exact ⟨vs, e1, by simpa using e2, many _ _ e3⟩
    | any => exact (fr .any v trivial).to_s
    | skip => exact (fr .skip v hx).to_s
    | leaf l => exact (fr (.leaf l) v hx).to_s
    | agg l => exact (fr (.agg l) v hx).to_s
    | nilptr => exact (fr .nilptr v hx).to_s
    | nilface => exact (fr .nilface v hx).to_s
    | eptr c e o => exact (fr (.eptr c e o) v hx).to_s
    | ptr b' o => exact (fr (.ptr b' o) v hx).to_s
    | bsl b' z lo n => exact (fr (.bsl b' z lo n) v hx).to_s
    | kfn f cs => exact (fr (.kfn f cs) v hx).to_s
  refine ⟨F', Ow', ⟨by rw [← h.len]; simp [St.froz], fun t => ?_, fun b' c' hb' => ?_, ⟨h.low.le, fun k hk => ?_, h.low.size⟩, fun g hg => ?_, fun b' c' hb' => ?_, fun g hz => ?_⟩, ⟨rfl, rfl, rfl, Nat.le_refl _, kp, fun g _ hg => ⟨fun _ => rfl, ?_, ?_⟩⟩⟩
  · have e1 : (s.tmps.map (SV.lift φ)).getD t .any = (s.tmps.getD t .any).lift φ := by
      rw [List.getD_eq_getElem?_getD, List.getD_eq_getElem?_getD, List.getElem?_map]
      cases s.tmps[t]? with
      | none => exact hany.symm
      | some y => rfl
    show aR P w F' N Ow' bm al' (.tmp t) ((s.tmps.map (SV.lift φ)).getD t .any) _
    rw [e1]
    exact conv _ _ _ (fun k hk => by simp at hk) (h.slot t)
  · have hb2 : aW ((s.boxes.set b none).map (Option.map (List.map (SV.lift φ)))) b' = some c' := hb'
    rw [bat] at hb2
    split at hb2
    · simp at hb2
    · rename_i hne
      rw [Option.map_eq_some_iff] at hb2
      obtain ⟨c0, hc0, rfl⟩ := hb2
      rcases h.box b' c0 hc0 with k0 | ⟨cur', e', k1, k2, k3, k4, k5⟩
      · subst k0; exact .inl rfl
      have hbb : bm b' ≠ bm b := fun hx => by
        rw [hx, g4] at k4
        simp only [Option.some.injEq, Loc.blk.injEq] at k4
        exact hne k4.symm
      refine .inr ⟨cur', e', k1, by simpa using k2, (if_neg hbb).trans k3, by show (if bm b' = bm b then none else Ow (bm b')) = _; rw [if_neg hbb]; exact k4, fun j c u hj hu => ?_⟩
      simp only [List.getElem?_map, Option.map_eq_some_iff] at hj
      obtain ⟨c1, hc1, rfl⟩ := hj
      exact conv _ _ _ (fun k hk => by simp at hk) (k5 j c1 u hc1 hu)
  · obtain ⟨h1, h2, h3⟩ := h.low.know k hk
    exact ⟨Nat.lt_of_lt_of_le h1 (hF _), h2, h3⟩
  · have hgb : g ≠ bm b := fun hx => by
      subst hx
      have := (Array.getElem?_eq_some_iff.1 g1).1
      omega
    exact ⟨(if_neg hgb).trans (h.new g hg).1, by show (if g = bm b then none else Ow g) = none; rw [if_neg hgb]; exact (h.new g hg).2⟩
  · have hb2 : aW ((s.boxes.set b none).map (Option.map (List.map (SV.lift φ)))) b' = some c' := hb'
    rw [bat] at hb2
    split at hb2
    · simp at hb2
    · rw [Option.map_eq_some_iff] at hb2
      obtain ⟨c0, hc0, _⟩ := hb2
      exact h.bmn b' c0 hc0
  · refine ⟨?_, (h.zow g hz).2⟩
    show (if g = bm b then none else Ow g) = none
    split
    · rfl
    · exact (h.zow g hz).1
  · exact if_neg fun hx => by rw [hx, g4] at hg; simp at hg
  · show (if g = bm b then none else Ow g) = none
    split
    · rfl
    · exact hg
theorem Inv.freeze1 {tmps : Array Value} (h : Inv P s tmps w F N Ow bm) (b : Nat) : ∃ F' Ow', Inv P (s.freeze1 b) tmps w F' N Ow' bm ∧ Far N w F Ow w F' Ow' := by
  have stay : ∃ F' Ow', Inv P s tmps w F' N Ow' bm ∧ Far N w F Ow w F' Ow' := ⟨F, Ow, h, Far.refl _ _ _⟩
  unfold St.freeze1
  split
  · exact stay
  · rename_i l0 ls0 hls
    rw [Option.bind_eq_some_iff] at hls
    obtain ⟨cs, hcs, hls⟩ := hls
    have hne : cs ≠ [] := by rintro rfl; simp [cM] at hls
    generalize l0 :: ls0 = ls at hls
    obtain ⟨cur, e, g1, g2, g3, g4, g5⟩ := (h.box b cs hcs).resolve_left hne
    have hF : ∀ g, F g ≤ (fun g => if g = bm b then cs.length else F g) g := fun g => by
      show F g ≤ if g = bm b then cs.length else F g
      split
      · rename_i hg; rw [hg, g3]; exact Nat.zero_le _
      · exact Nat.le_refl _
    have kp : eN N w F w (fun g => if g = bm b then cs.length else F g) := .mk' (fun _ _ _ => rfl) hF (fun _ h => h) fun _ _ h => h
    refine h.froz hcs hne (SV.frzF b ls) rfl fun al' ha x v hx => hx.frz (vals := cur.toList.take cs.length) hF ?_ (h.bmn b cs hcs) ⟨?_, fun j l u hl hu => ?_⟩ (fun j u hj => ?_) ha
    · show ls.length ≤ if bm b = bm b then cs.length else F (bm b)
      rw [if_pos rfl, zT hls]; exact Nat.le_refl _
    · rw [zT hls, List.length_take]
      have := Array.length_toList (xs := cur)
      omega
    · obtain ⟨c, hc, hcl⟩ := aK4 hls hl
      rw [List.getElem?_take] at hu
      split at hu
      · exact ((g5 j c u hc (by simpa using hu)).asLeaf hcl).keeps kp
      · simp at hu
    · rw [List.getElem?_take] at hj
      split at hj
      · simp only [World.cell?, g1]
        simpa using hj
      · simp at hj
  · split
    · rename_i f caps hcs
      split
      · rename_i cs hk
        obtain ⟨cur, e, g1, g2, g3, g4, g5⟩ := (h.box b _ hcs).resolve_left (by simp)
        have hsz : 0 < cur.size := g2
        obtain ⟨vs, e1, e2, e3⟩ := g5 0 (.fn f caps) cur[0] rfl (by simp [hsz])
        have hF : ∀ g, F g ≤ (fun g => if g = bm b then [SV.fn (m := m) f caps].length else F g) g := fun g => by
          show F g ≤ if g = bm b then 1 else F g
          split
          · rename_i hg; rw [hg, g3]; exact Nat.zero_le _
          · exact Nat.le_refl _
        refine h.froz hcs (by simp) (SV.frkF b f cs) rfl fun al' ha x v hx => hx.frk hF (by show 0 < if bm b = bm b then 1 else F (bm b); rw [if_pos rfl]; exact Nat.one_pos) (h.bmn b _ hcs) hk ?_ e2 e3 ha
        simp only [World.cell?, g1]
        rw [← e1]
        simp [hsz]
      · exact stay
    · exact stay
theorem aKI (s : (St m)) (b : Nat) (φ : (SV m) → (SV m)) : (s.froz b φ).boxes.length = s.boxes.length := by simp [St.froz]
theorem aMR (s : (St m)) (b : Nat) : (s.freeze1 b).boxes.length = s.boxes.length := by
  unfold St.freeze1
  split
  · rfl
  · exact aKI _ _ _
  · split
    · split
      · exact aKI _ _ _
      · rfl
    · rfl
theorem aQb (s : (St m)) (nt t k : Nat) : (s.mend nt t k).boxes.length = s.boxes.length := by
  unfold St.mend
  split <;> try rfl
  split <;> simp
theorem Inv.reslot {tmps : Array Value} (h : Inv P s tmps w F N Ow bm) {t : Nat} {v : SV m} (hv : aR P w F N Ow bm s.al (.tmp t) v (tmps.getD t undef)) : Inv P { s with tmps := s.tmps.set t v } tmps w F N Ow bm := h.forget hv
theorem Inv.mend {tmps : Array Value} (h : Inv P s tmps w F N Ow bm) (nt t k : Nat) : ∃ F' Ow' bm', Inv P (s.mend nt t k) tmps w F' N Ow' bm' ∧ Far N w F Ow w F' Ow' ∧ ∀ b, nt ≤ b → bm' b = bm b := by
  have stay : ∃ F' Ow' bm', Inv P s tmps w F' N Ow' bm' ∧ Far N w F Ow w F' Ow' ∧ ∀ b, nt ≤ b → bm' b = bm b := ⟨F, Ow, bm, h, Far.refl _ _ _, fun _ _ => rfl⟩
  have hs := h.slot t
  have hany : Inv P { s with tmps := s.tmps.set t .any } tmps w F N Ow bm := h.reslot aR.any
  have hlt : ∀ v : SV m, s.tmps.getD t .any = v → v ≠ .any → t < s.tmps.length := fun v hv hne => by
    rcases Nat.lt_or_ge t s.tmps.length with h' | h'
    · exact h'
    · rw [List.getD_eq_getElem?_getD, List.getElem?_eq_none h'] at hv
      exact absurd hv.symm hne
  have hno : ¬ St.holds { s with tmps := s.tmps.set t .any } (.tmp t) := by
    show ¬ jK ((s.tmps.set t .any).getD t .any) = true
    by_cases hl : t < s.tmps.length
    · rw [List.getD_eq_getElem?_getD, List.getElem?_set_self hl]; simp [jK]
    · rw [List.getD_eq_getElem?_getD, List.getElem?_eq_none (by simpa using hl)]; simp [jK]
  unfold St.mend
  split
  · rename_i e es he
    rw [he] at hs
    have hO : lO P w F N Ow (.tmp t) true e es (tmps.getD t undef) := hs
    rcases hO with ⟨h1, rfl⟩ | ⟨g, cap, cur, e', i, vals, hn, he', hi, hz, hv, hg, hc, hm, hsz, hx, ho, hf, ht, hr⟩
    · refine ⟨F, Ow, bm, h.reslot ?_, Far.refl _ _ _, fun _ _ => rfl⟩
      simp only [aR]
      exact .inl ⟨h1, rfl⟩
    · have hf0 : F g = 0 := by simpa using hf
      let F' : Fr := fun k => if k = g then es.length * i.size else F k
      have hle : ∀ k, F k ≤ F' k := fun k => by
        show F k ≤ if k = g then es.length * i.size else F k
        split
        · rename_i hkg; rw [hkg, hf0]; exact Nat.zero_le _
        · exact Nat.le_refl _
      have kp : eN N w F w F' := .mk' (fun _ _ _ => rfl) hle (fun _ h => h) fun _ _ h => h
      have hgl : g < w.heap.size := (Array.getElem?_eq_some_iff.1 hg).1
      have h2 := hany.to (F' := F') (Ow' := Ow) (bm' := bm) kp (Nat.le_refl _) (fun _ _ => rfl) (fun k loc hk hl => ⟨rfl, if_neg fun hkg => by
        subst hkg
        rw [ho] at hk
        cases hk
        exact hno hl, hk⟩) (fun k hk => ⟨(if_neg (by omega)).trans (h.new k hk).1, (h.new k hk).2⟩) h.zow
      have h3 := h2.reslot (t := t) (v := .own e es) (by
        simp only [aR]
        exact .inr ⟨g, cap, cur, e', i, vals, hn, he', hi, hz, hv, hg, hc, hm, hsz, hx, ho, by simp [F'], ht, hr.keeps kp⟩)
      simp only [List.set_set] at h3
      exact ⟨F', Ow, bm, h3, ⟨rfl, rfl, rfl, Nat.le_refl _, kp, fun k _ hk => ⟨fun _ => rfl, if_neg (fun hkg => by subst hkg; rw [ho] at hk; simp at hk), hk⟩⟩, fun _ _ => rfl⟩
  · rename_i e he
    rw [he] at hs
    have hO : lO P w F N Ow (.tmp t) false e [] (tmps.getD t undef) := hs
    refine ⟨F, Ow, bm, h.reslot ?_, Far.refl _ _ _, fun _ _ => rfl⟩
    simp only [aR]
    rcases hO with ⟨h1, _⟩ | ⟨g, cap, cur, e', i, vals, hn, he', hi, hz, hv, hg, hc, hm, hsz, hx, ho, hf, ht, hr⟩
    · exact .inl ⟨h1, rfl⟩
    · exact .inr ⟨g, cap, cur, e', i, vals, hn, he', hi, hz, hv, hg, hc, hm, hsz, hx, ho, by simpa using hf, ht, hr⟩
  · rename_i z e es he
    split
    · rename_i hb hd
      obtain ⟨htn, htb⟩ := of_decide_eq_true hd
      rw [he] at hs
      have hO : lO P w F N Ow (.tmp t) true e es (tmps.getD t undef) := hs
      have hal : ∀ b, s.al b = true → b ≠ t := fun b hb' hbt => by subst hbt; simp [St.al, hb] at hb'
      have hself : aW (s.boxes.set t (some (kK es))) t = some (kK es) := eS htb
      rcases hO with ⟨h1, rfl⟩ | ⟨g, cap, cur, e', i, vals, hn, he', hi, hz, hv, hg, hc, hm, hsz, hx, ho, hf, ht, hr⟩
      · have h2 := hany.to (F' := F) (Ow' := Ow) (bm' := fun b => if b = t then w.heap.size else bm b) (eN.refl _ _) (Nat.le_refl _) (fun b hb' => if_neg (hal b hb')) (fun k loc hk _ => ⟨rfl, rfl, hk⟩) h.new h.zow
        have hp : ∀ b, s.al b = true → (fun b => if b = t then w.heap.size else bm b) b = (fun b => if b = t then w.heap.size else bm b) b ∧ (aW (s.boxes.set t (some (kK ([] : List (List (aC m)))))) b).isSome = true := fun b hb' => ⟨rfl, by rw [iW (hal b hb')]; exact hb'⟩
        have h3 : Inv P { tmps := s.tmps.set t .any, boxes := s.boxes.set t (some (kK ([] : List (List (aC m))))) } tmps w F N Ow (fun b => if b = t then w.heap.size else bm b) := by
          refine ⟨h2.len, fun u => (h2.slot u).to (eN.refl _ _) hp fun _ k hk => ⟨rfl, rfl, hk⟩, fun b cs hbx => ?_, h2.low, h2.new, fun b cs hbx => ?_, h2.zow⟩
          · by_cases hbt : b = t
            · subst hbt
              rw [hself] at hbx
              cases hbx
              exact .inl rfl
            · have hbx' : aW s.boxes b = some cs := by rw [← iW (v := some (kK ([] : List (List (aC m))))) hbt]; exact hbx
              rcases h2.box b cs hbx' with g0 | ⟨c2, e2, q1, q2, q3, q4, q5⟩
              · exact .inl g0
              · exact .inr ⟨c2, e2, q1, q2, q3, q4, fun j c u hc hu => (q5 j c u hc hu).to (eN.refl _ _) hp fun _ k hk => ⟨rfl, rfl, hk⟩⟩
          · by_cases hbt : b = t
            · subst hbt
              show N.n ≤ if b = b then w.heap.size else bm b
              rw [if_pos rfl]; exact h.low.le
            · have hbx' : aW s.boxes b = some cs := by rw [← iW (v := some (kK ([] : List (List (aC m))))) hbt]; exact hbx
              exact h2.bmn b cs hbx'
        have h4 := h3.reslot (t := t) (v := .bsl t z 0 0) (by
          have hb2 : aDi (fun b => if b = t then w.heap.size else bm b) (St.al { tmps := s.tmps.set t .any, boxes := s.boxes.set t (some (kK ([] : List (List (aC m))))) }) t z 0 0 (tmps.getD t undef) := ⟨.inl ⟨rfl, none, 0, h1⟩, by show (aW (s.boxes.set t (some (kK ([] : List (List (aC m)))))) t).isSome = true; rw [hself]; rfl⟩
          simpa only [aR, dF, aDi] using hb2)
        simp only [List.set_set] at h4
        exact ⟨F, Ow, _, h4, Far.refl _ _ _, fun b hb' => if_neg (fun hbt => by omega)⟩
      · have hf0 : F g = 0 := by simpa using hf
        have hgl : g < w.heap.size := (Array.getElem?_eq_some_iff.1 hg).1
        let Ow' : Own := fun k => if k = g then some (.blk t) else Ow k
        have h2 := hany.to (F' := F) (Ow' := Ow') (bm' := fun b => if b = t then g else bm b) (eN.refl _ _) (Nat.le_refl _) (fun b hb' => if_neg (hal b hb')) (fun k loc hk hl => ⟨rfl, rfl, by
          show (if k = g then some (.blk t) else Ow k) = _
          rw [if_neg, hk]
          intro hkg
          subst hkg
          rw [ho] at hk
          cases hk
          exact hno hl⟩) (fun k hk => ⟨(h.new k hk).1, by show (if k = g then some (.blk t) else Ow k) = none; rw [if_neg (by omega)]; exact (h.new k hk).2⟩) (fun k hk => ⟨by
            show (if k = g then some (.blk t) else Ow k) = none
            rw [if_neg (fun hkg => by have := N.lt k hk; omega)]; exact (h.zow k hk).1, (h.zow k hk).2⟩)
        have hrl : (kK es).length = es.length * i.size := by simp only [kK, List.length_map]; exact eI hx
        have hmul : es.length * i.size ≤ cap * i.size := Nat.mul_le_mul_right _ hc
        have h3 := h2.addBox (d := t) (cs := kK es) (cur := cur) (e := e') hb (by simpa using hg) (by rw [hrl, hsz]; exact hmul) (by simpa using hf0) (by simp [Ow']) (by simpa using hn) (fun j c u hcj hu => by
          simp only [kK, List.getElem?_map, Option.map_eq_some_iff] at hcj
          obtain ⟨l, hl, rfl⟩ := hcj
          have hj : j < es.length * i.size := by rw [← eI hx]; exact (List.getElem?_eq_some_iff.1 hl).1
          refine aR.leaf (hr.2 j l u hl ?_)
          rw [← ht, List.getElem?_take, if_pos hj]
          simpa using hu)
        have h4 := h3.reslot (t := t) (v := .bsl t z 0 es.length) (by
          simp only [aR, dF]
          refine ⟨.inr ⟨cap, by rw [hv]; simp, hc⟩, ?_⟩
          show (aW (s.boxes.set t (some (kK es))) t).isSome = true
          rw [hself]; rfl)
        simp only [List.set_set] at h4
        exact ⟨F, Ow', _, h4, ⟨rfl, rfl, rfl, Nat.le_refl _, eN.refl _ _, fun k _ hk => ⟨fun _ => rfl, rfl, by
          show (if k = g then some (.blk t) else Ow k) = none
          rw [if_neg (fun hkg => by subst hkg; rw [ho] at hk; simp at hk)]; exact hk⟩⟩, fun b hb' => if_neg (fun hbt => by omega)⟩
    · exact stay
  · exact stay
theorem rK (nt : Nat) : ∀ (bs : List Nat) (s : (St m)), (St.freeze nt s bs).boxes.length = s.boxes.length
  | [], _ => rfl
  | b :: bs, s => by
    rw [St.freeze, rK nt bs]
    split
    · exact aMR s b
    · exact aQb _ _ _ _
theorem Inv.freeze {tmps : Array Value} (nt : Nat) : ∀ (bs : List Nat) {s : (St m)} {F : Fr} {Ow : Own} {bm : Nat → Nat}, Inv P s tmps w F N Ow bm → ∃ F' Ow' bm', Inv P (St.freeze nt s bs) tmps w F' N Ow' bm' ∧ Far N w F Ow w F' Ow' ∧ ∀ b, nt ≤ b → bm' b = bm b
  | [], s, F, Ow, bm, h => ⟨F, Ow, bm, h, Far.refl _ _ _, fun _ _ => rfl⟩
  | b :: bs, s, F, Ow, bm, h => by
    rw [St.freeze]
    split
    · obtain ⟨F2, O2, k1, k2⟩ := h.freeze1 b
      obtain ⟨F3, O3, b3, q1, q2, q3⟩ := Inv.freeze nt bs k1
      exact ⟨F3, O3, b3, q1, k2.trans q2, q3⟩
    · obtain ⟨F2, O2, b2, k1, k2, k3⟩ := h.mend nt (b % 4096) (_ + 1)
      obtain ⟨F3, O3, b3, q1, q2, q3⟩ := Inv.freeze nt bs k1
      exact ⟨F3, O3, b3, q1, k2.trans q2, fun c hc => (q3 c hc).trans (k3 c hc)⟩
theorem kS.freeze (bs : List Nat) {s' : (St m)} {a' : Act} {w' : World} (h : kS P N nt s' a w F Ow bm a' w') : kS P N nt (St.freeze nt s' bs) a w F Ow bm a' w' := by
  obtain ⟨F1, O1, b1, h1, h2, h3, h4⟩ := h
  obtain ⟨F2, O2, b2, k1, k2, k3⟩ := h1.freeze nt bs
  exact ⟨F2, O2, b2, k1, h2.trans k2, fun b hb => (k3 b hb).trans (h3 b hb), h4⟩
def aBW (P : Program) (N : Env) (nt L : Nat) (a : Act) (w : World) (F : Fr) (Ow : Own) (bm : Nat → Nat) : (Out m) → Exit → Act → World → Prop
  | .norm s', .normal, a', w' => kS P N nt s' a w F Ow bm a' w' ∧ s'.boxes.length = L
  | .exit id s', .exit id', a', w' => id = id' ∧ kS P N nt s' a w F Ow bm a' w' ∧ s'.boxes.length = L
  | .ret s', .ret, a', w' => kS P N nt s' a w F Ow bm a' w' ∧ s'.boxes.length = L
  | _, _, _, _ => False
theorem aBW.trans {L : Nat} {s1 : (St m)} {a1 : Act} {w1 : World} (h : kS P N nt s1 a w F Ow bm a1 w1) : ∃ F1 O1 b1, Inv P s1 a1.tmps w1 F1 N O1 b1 ∧ ∀ (out : Out m) ex a2 w2, aBW P N nt L a1 w1 F1 O1 b1 out ex a2 w2 → aBW P N nt L a w F Ow bm out ex a2 w2 := by
  obtain ⟨F1, O1, b1, h1, htr⟩ := h.inv
  refine ⟨F1, O1, b1, h1, fun out ex a2 w2 he => ?_⟩
  cases out <;> cases ex <;> simp only [aBW] at he ⊢
  · exact ⟨htr _ _ _ he.1, he.2⟩
  · exact ⟨he.1, htr _ _ _ he.2.1, he.2.2⟩
  · exact ⟨htr _ _ _ he.1, he.2⟩
abbrev aGv (n : Nat) : ((St m) → Option (Out m)) → ((St m) → Option (St m)) → (St m) → Option (Out m) := fun body again s => rounds body again n s
theorem aMg (hP : P.follows .mixedOrders = true) {D : (bK m)} (hD : lS P N D) {H : gB} (hH : H.nt = nt) (n L : Nat) (hL : nt ≤ L) : ∀ (c : Code) (blk : Nat) {β : Type} (k : (Out m) → Option β) (y : β) (s : (St m)) (a : Act) (w : World) (F : Fr) (Ow : Own) (bm : Nat → Nat)
    (Q : Exit → Act → World → Prop), eU P D H (aGv n) blk c s k = some y → Inv P s a.tmps w F N Ow bm → s.boxes.length = L →
    (∀ out ex a' w', k out = some y → aBW P N nt L a w F Ow bm out ex a' w' → Q ex a' w') → c.wp P Q a w := by
  intro c
  induction c with
  | skip =>
    intro blk β k y s a w F Ow bm Q hc h hl hk
    exact wp_skip (hk _ _ a w hc ⟨kS.refl h, hl⟩)
  | region id ops draw =>
    intro blk β k y s a w F Ow bm Q hc h hl hk
    simp only [eU] at hc
    obtain ⟨hd, hc⟩ := aU hc
    rw [mT, Option.bind_eq_some_iff] at hc
    obtain ⟨s', hs, hks⟩ := hc
    rw [hH] at hs
    obtain ⟨F0, O0, b0, e1, e2, e3⟩ := h.freeze nt (H.fz (4194304 + id))
    refine aPg hP hD e1 (by rw [rK]; omega) (fun hdr => by simpa [hdr] using hd) hs fun a' w' hst => hk _ _ _ _ hks ⟨?_, by rw [rK, aQB, aIh _ _ _ _ hs, rK, hl]⟩
    have hst2 : kS P N nt s' a w F Ow bm a' w' := by
      obtain ⟨F', Ow', bm', k1, k2, k3, k4⟩ := hst
      exact ⟨F', Ow', bm', k1, e2.trans k2, fun b hb => (k3 b hb).trans (e3 b hb), k4⟩
    rw [hH]; exact (hst2.tidy _ _).freeze _
  | seq c1 c2 ih1 ih2 =>
    intro blk β k y s a w F Ow bm Q hc h hl hk
    simp only [eU] at hc
    refine wp_seq (ih1 blk _ y s a w F Ow bm _ hc h hl fun out ex a' w' ho he => ?_)
    cases out <;> cases ex <;> simp only [aBW] at he
    · obtain ⟨hst, hl'⟩ := he
      obtain ⟨F1, O1, b1, h1, htr⟩ := aBW.trans (L := L) hst
      exact ih2 blk k y _ a' w' F1 O1 b1 Q ho h1 hl' fun out ex a2 w2 ho2 he2 => hk out ex a2 w2 ho2 (htr _ _ _ _ he2)
    · exact hk _ _ _ _ ho he
    · exact hk _ _ _ _ ho he
  | cond x c1 c2 ih1 ih2 =>
    intro blk β k y s a w F Ow bm Q hc h hl hk
    simp only [eU] at hc
    obtain ⟨b, hb, hc⟩ := uG hc
    have hv := qU ((h.eval (a := a) rfl x).leafOf _ (aBG hb))
    rw [nY] at hc
    cases b
    · exact wp_cond_false hv (ih2 blk k y _ a w F Ow bm Q (by simpa using hc) (h.dropC _ _).1 (by rw [(h.dropC _ _).2, hl]) hk)
    · exact wp_cond_true hv (ih1 blk k y _ a w F Ow bm Q (by simpa using hc) (h.dropC _ _).1 (by rw [(h.dropC _ _).2, hl]) hk)
  | block id c ih =>
    intro blk β k y s a w F Ow bm Q hc h hl hk
    simp only [eU] at hc
    refine wp_block (ih id _ y s a w F Ow bm _ hc h hl fun out ex a' w' ho he => ?_)
    cases out <;> cases ex <;> simp only [aBW] at he
    · exact hk _ _ _ _ ho he
    · rename_i id1 s1 id2
      obtain ⟨rfl, he⟩ := he
      simp only [Exit.inBlock]
      by_cases hid : id1 = id
      · simp only [uJ, hid, if_true] at ho ⊢
        exact hk _ _ _ _ ho he
      · simp only [uJ, hid, if_false] at ho ⊢
        exact hk _ _ _ _ ho ⟨rfl, he⟩
    · exact hk _ _ _ _ ho he
  | loop c ih =>
    intro blk β k y s a w F Ow bm Q hc h hl hk
    simp only [eU] at hc
    rw [Option.bind_eq_some_iff] at hc
    obtain ⟨out, hr, hko⟩ := hc
    refine wp_loop_rounds n ?_
    have key : ∀ (q : Nat) (s : (St m)) (a1 : Act) (w1 : World) (F1 : Fr) (O1 : Own) (b1 : Nat → Nat), rounds (fun s => eU P D H (aGv n) blk c s some) (fun s => s.again (H.clear blk) (H.drop blk)) q s = some out → Inv P s a1.tmps w1 F1 N O1 b1 → s.boxes.length = L →
        (∀ ex a2 w2, aBW P N nt L a1 w1 F1 O1 b1 out ex a2 w2 → Q ex a2 w2) → Code.rounds P c Q q a1 w1 := by
      intro q
      induction q with
      | zero => intro s a1 w1 F1 O1 b1 hr _ _ _; simp [rounds] at hr
      | succ q ihm =>
        intro s a1 w1 F1 O1 b1 hr h1 hl1 hq
        simp only [rounds] at hr
        rw [Option.bind_eq_some_iff] at hr
        obtain ⟨s2, hag, hr⟩ := hr
        rw [Option.bind_eq_some_iff] at hr
        obtain ⟨o, hb, hr⟩ := hr
        obtain ⟨h2, hl2⟩ := h1.again hag
        rw [rounds_succ]
        refine ih blk some o s2 a1 w1 F1 O1 b1 _ hb h2 (by rw [hl2, hl1]) fun out' ex a2 w2 ho he => ?_
        simp only [Option.some.injEq] at ho
        subst ho
        cases out' <;> cases ex <;> simp only [aBW] at he
        · obtain ⟨hst, hl3⟩ := he
          obtain ⟨F3, O3, b3, h3, htr⟩ := aBW.trans (L := L) hst
          exact ihm _ a2 w2 F3 O3 b3 hr h3 hl3 fun ex a4 w4 he4 => hq ex a4 w4 (htr _ _ _ _ he4)
        · simp only [Option.some.injEq] at hr
          subst hr
          exact hq _ _ _ he
        · simp only [Option.some.injEq] at hr
          subst hr
          exact hq _ _ _ he
    exact key n s a w F Ow bm hr h hl fun ex a2 w2 he => hk out ex a2 w2 hko he
  | exit id =>
    intro blk β k y s a w F Ow bm Q hc h hl hk
    exact wp_exit (hk _ _ a w hc ⟨rfl, kS.refl h, hl⟩)
  | ret =>
    intro blk β k y s a w F Ow bm Q hc h hl hk
    exact wp_ret (hk _ _ a w hc ⟨kS.refl h, hl⟩)
  | _ =>
    intro blk β k y s a w F Ow bm Q hc
    simp [eU] at hc
end
end Go.Vs
end
section
namespace Go.Vs
variable {m : Bool}
variable {P : Program} {N : Env}
section
variable {s : (St m)} {tmps : Array Value} {w : World} {F : Fr} {Ow : Own} {bm : Nat → Nat}
def aPt (s : (St m)) : ResultVar → Loc
  | .tmp t => .tmp t
  | .cell a _ => match s.tmps.getD a .any with | .ptr b p => .box b p | _ => .blk 0
def zZ (tmps : Array Value) : ResultVar → Sem Value
  | .tmp t => pure (tmps.getD t undef)
  | .cell a t => do loadVar t (← asAddr (tmps.getD a undef))
def aRC (w : World) (g : Nat) : Nat := match w.heap[g]? with | some (.cells cur _ _) => cur.size | _ => 0
def aAQ (nt : Nat) (s : (St m)) (w : World) (F : Fr) (bm : Nat → Nat) : Fr := fun g => if (List.range nt).any (fun b => aSD (aW s.boxes b) && bm b == g) = true then aRC w g else F g
theorem aO2 {x : Option (List (SV m))} (h : aSD x = true) : ∃ cs, x = some cs ∧ cs ≠ [] := by
  unfold aSD at h
  split at h
  · exact ⟨_, rfl, by simp⟩
  · simp at h
theorem aMf {nt g : Nat} (hg : ∀ b, b < nt → aSD (aW s.boxes b) = true → bm b ≠ g) : aAQ nt s w F bm g = F g := by
  unfold aAQ
  rw [if_neg]
  rw [List.any_eq_true]
  rintro ⟨b, hb, hx⟩
  simp only [Bool.and_eq_true, beq_iff_eq] at hx
  exact hg b (List.mem_range.1 hb) hx.1 hx.2
theorem aF1 (h : Inv P s tmps w F N Ow bm) {nt g : Nat} {loc : Loc} (hg : Ow g = some loc) (hl : ∀ b, b < nt → loc ≠ .blk b) : aAQ nt s w F bm g = F g := by
  refine aMf fun b hb hal he => ?_
  obtain ⟨cs, hcs, hne⟩ := aO2 hal
  obtain ⟨_, _, _, _, _, ho, _⟩ := (h.box b cs hcs).resolve_left hne
  rw [he, hg] at ho
  exact hl b hb (by simpa using ho)
theorem yB (h : Inv P s tmps w F N Ow bm) (nt : Nat) : eN N w F w (aAQ nt s w F bm) := by
  refine .mk' (fun _ _ _ => rfl) (fun g => ?_) (fun _ h => h) fun _ _ h => h
  by_cases hx : ∃ b, b < nt ∧ aSD (aW s.boxes b) = true ∧ bm b = g
  · obtain ⟨b, _, hal, rfl⟩ := hx
    obtain ⟨cs, hcs, hne⟩ := aO2 hal
    obtain ⟨_, _, _, _, h0, _, _⟩ := (h.box b cs hcs).resolve_left hne
    rw [h0]; exact Nat.zero_le _
  · rw [aMf fun b hb hal he => hx ⟨b, hb, hal, he⟩]; exact Nat.le_refl _
theorem aSj (h : Inv P s tmps w F N Ow bm) {nt b : Nat} {cs : List (SV m)} (hb : b < nt) (hcs : aW s.boxes b = some cs) (hne : cs ≠ []) : cs.length ≤ aAQ nt s w F bm (bm b) := by
  obtain ⟨cur, e, h1, h2, _⟩ := (h.box b cs hcs).resolve_left hne
  unfold aAQ
  rw [if_pos]
  · simp only [aRC, h1]; exact h2
  · rw [List.any_eq_true]
    refine ⟨b, List.mem_range.2 hb, ?_⟩
    cases cs with
    | nil => exact absurd rfl hne
    | cons c cs => simp [hcs, aSD]
theorem aKW {α : Type} {z : Nat} : ∀ (n : Nat) (l : List α), n * z ≤ l.length → (kH z n l).length = n ∧ (∀ e ∈ kH z n l, e.length = z) ∧ (kH z n l).flatten = l.take (n * z)
  | 0, l, _ => by simp [kH]
  | n + 1, l, h => by
    have hm : (n + 1) * z = n * z + z := Nat.succ_mul _ _
    obtain ⟨h1, h2, h3⟩ := aKW (z := z) n (l.drop z) (by rw [List.length_drop]; omega)
    refine ⟨by simp [kH, h1], fun e he => ?_, ?_⟩
    · rcases List.mem_cons.1 he with rfl | he
      · rw [List.length_take]; omega
      · exact h2 e he
    · rw [kH, List.flatten_cons, h3, hm, Nat.add_comm, List.take_add]
theorem aTh (h : Inv P s tmps w F N Ow bm) {nt : Nat} {loc : Loc} {x v : (SV m)} {u : Value} (hl : jK x = true → ∀ b, b < nt → loc ≠ .blk b) (hx : aR P w F N Ow bm s.al loc x u) (hs : aQg nt s x = some v) : aR P w (aAQ nt s w F bm) N Ow bm s.al loc v u := by
  have hk := yB h nt
  have old : v = x → aR P w (aAQ nt s w F bm) N Ow bm s.al loc v u := fun e => by
    subst e
    exact hx.to hk (fun b hb => ⟨rfl, hb⟩) fun ho g hg => ⟨rfl, aF1 h hg (hl ho), hg⟩
  cases x with
  | bsl b z lo n =>
    simp only [aQg] at hs
    split at hs
    · rename_i hb
      obtain ⟨hb, rfl⟩ := hb
      rw [Option.bind_eq_some_iff] at hs
      obtain ⟨cs, hcs, hs⟩ := hs
      have hcs' : aW s.boxes b = some cs := hcs
      split at hs
      · rename_i hc
        obtain ⟨hle, hz⟩ := hc
        rw [Option.map_eq_some_iff] at hs
        obtain ⟨l, hl', rfl⟩ := hs
        obtain ⟨A, cap, e, hcap, hA⟩ := (hx.bslOf b z 0 n rfl).len
        subst e
        by_cases hn0 : n = 0
        · subst hn0
          refine aR.leaf ?_
          exact nC (es := []) (z := 0) (vals := []) hcap (by simp) (fun h => by simp at h) (cU.nil _ _ _)
        obtain rfl := hA (by omega)
        rw [Nat.zero_mul]
        have hnz : 0 < n * z := Nat.mul_pos (by omega) hz
        have hne : cs ≠ [] := by rintro rfl; simp at hle; omega
        obtain ⟨cur, e, h1, h2, h3, h4, h5⟩ := (h.box b cs hcs').resolve_left hne
        have hcl := Array.length_toList (xs := cur)
        have hr : cU w F N l (cur.toList.take (n * z)) := by
          refine zU (P := P) (Ow := Ow) (bm := bm) (al := s.al) (cs.take (n * z)) _ l (fun j => .box b j) hl' (by simp; omega) fun j c u hc hu => ?_
          rw [List.getElem?_take] at hc hu
          split at hc
          · rename_i hj
            simp only [hj, if_true] at hu
            exact h5 j c u hc (by simpa using hu)
          · simp at hc
        have hll : l.length = n * z := by have := hr.1; rw [List.length_take] at this; omega
        obtain ⟨c1, c2, c3⟩ := aKW (z := z) n l (by omega)
        rw [List.take_of_length_le (by omega)] at c3
        refine aR.leaf ?_
        have := nC (w := w) (F := aAQ nt s w F bm) (N := N) (c := Fl.new m) (es := kH z n l) (A := some ⟨bm b, 0, none⟩) (cap := cap) (z := z) (vals := cur.toList.take (n * z)) (by rw [c1]; exact hcap) c2 (fun hpos => ⟨bm b, 0, rfl, ⟨by rw [c1] at hpos; rw [List.length_take, Nat.min_eq_left (by omega)]; exact Nat.mul_pos hpos (by omega), Fl.Holds.mk_new (h.bmn b cs hcs') ⟨cur, e, h1⟩⟩, ?_, ⟨fun hh => by rw [Fl.soft_new] at hh; simp at hh, fun hh => absurd (N.lt _ hh) (Nat.not_lt.2 (h.bmn b cs hcs'))⟩, fun j v hj => ?_⟩) (by rw [c3]; exact hr.keeps hk)
        · rw [c1] at this; exact this
        · refine Nat.le_trans ?_ (aSj h hb hcs' hne)
          rw [List.length_take]; omega
        · rw [List.getElem?_take] at hj
          split at hj
          · rw [Nat.zero_add, sO h1]; simpa using hj
          · simp at hj
      · simp at hs
    · split at hs
      · exact old (by simpa using hs.symm)
      · simp at hs
  | _ => exact old (by simpa [aQg] using hs.symm)
theorem aNc {tmps : Array Value} {nt : Nat} {r : ResultVar} {v : (SV m)} (h : Inv P s tmps w F N Ow bm) (hr : aHx P nt s r = some v) :
    ∃ u, (zZ tmps r).run P w = .ok u w ∧ aR P w (aAQ nt s w F bm) N Ow bm s.al (aPt s r) v u ∧ (jK v = true → ∀ b p, aPt s r = .box b p → b < nt) := by
  cases r with
  | tmp t =>
    simp only [aHx] at hr
    exact ⟨_, rfl, aTh (loc := .tmp t) h (fun _ b _ => by simp) (h.slot t) hr, fun _ b p hb => by simp [aPt] at hb⟩
  | cell c t =>
    simp only [aHx] at hr
    split at hr
    · rename_i b p hp
      rw [Option.bind_eq_some_iff] at hr
      obtain ⟨cs, hb, hr⟩ := hr
      have hb' : aW s.boxes b = some cs := hb
      have hx := h.slot c
      rw [hp] at hx
      have hz : tmps.getD c undef = .pointer (some ⟨bm b, p, none⟩) := by
        have : tmps.getD c undef = .pointer (some ⟨bm b, p, none⟩) ∧ s.al b = true := by simpa only [aR, dF] using hx
        exact this.1
      have hloc : aPt s (.cell c t) = .box b p := by simp only [aPt, hp]
      have hld : ∀ u, (Instr.loadAt t (.pointer (some ⟨bm b, p, none⟩))).run P w = .ok u w → (zZ tmps (.cell c t)).run P w = .ok u w := by
        intro u hu
        have hu' : (loadVar t ⟨bm b, p, none⟩).run P w = .ok u w := by simpa [Instr.loadAt, Instr.sureAddr] using hu
        simp [zZ, hz, asAddr, hu']
      have hI : Inv P s (⟨tmps, []⟩ : Act).tmps w F N Ow bm := h
      split at hr
      · rename_i ha
        rw [Option.bind_eq_some_iff] at hr
        obtain ⟨n, hn, hr⟩ := hr
        split at hr
        · rename_i hle
          rw [Option.map_eq_some_iff] at hr
          obtain ⟨l, hl, rfl⟩ := hr
          obtain ⟨vals, hvl, hvc, hrr⟩ := aN9 (a := ⟨tmps, []⟩) hI hb' hle hl
          exact ⟨_, hld _ (aEE (n := n) (p := p) hvl hvc ha hn), aR.agg (by simpa using hrr.keeps (yB h nt)), fun ho => by simp [jK] at ho⟩
        · simp at hr
      · rename_i ha
        split at hr
        · rename_i hbn
          have ha' : kW P t = false := by simpa using ha
          obtain ⟨d, hd⟩ := aHM ha'
          have hp' : p < cs.length := (List.getElem?_eq_some_iff.1 hr).1
          obtain ⟨cur, et, h1, h2, h3, h4, h5⟩ := (h.box b cs hb').resolve_left (by rintro rfl; simp at hp')
          have hpc : p < cur.size := Nat.lt_of_lt_of_le hp' h2
          have hu : cur[p]? = some cur[p] := by simp [hpc]
          refine ⟨cur[p], hld _ (wR h1 hd ha' hu), by rw [hloc]; exact (h5 p v _ hr hu).to (yB h nt) (fun b hb => ⟨rfl, hb⟩) fun _ g hg => ⟨rfl, aF1 h hg (fun b _ => by simp), hg⟩, fun _ b' p' hb'' => ?_⟩
          rw [hloc] at hb''
          cases hb''
          exact hbn
        · simp at hr
    · simp at hr
theorem aMi {tmps : Array Value} {nt : Nat} (h : Inv P s tmps w F N Ow bm) : ∀ (rs : List ResultVar) (vs : List (SV m)), aFd P nt s rs = some vs → ∃ us, (rs.mapM (zZ tmps)).run P w = .ok us w ∧ us.length = vs.length ∧
    ∀ (j : Nat) (c : (SV m)) (u : Value), vs[j]? = some c → us[j]? = some u → ∃ loc, aR P w (aAQ nt s w F bm) N Ow bm s.al loc c u ∧ jK c = false
  | [], vs, hr => by simp [aFd] at hr; subst hr; exact ⟨[], by simp, rfl, by simp⟩
  | r :: rs, vs, hr => by
    simp only [aFd] at hr
    rw [Option.bind_eq_some_iff] at hr
    obtain ⟨v, hv, hr⟩ := hr
    rw [Option.map_eq_some_iff] at hr
    obtain ⟨vs', hvs, rfl⟩ := hr
    obtain ⟨u, hu, hrep, _⟩ := aNc h hv
    obtain ⟨us, h1, h2, h3⟩ := aMi h rs vs' hvs
    refine ⟨u :: us, by simp [List.mapM_cons, hu, h1], by simp [h2], fun j c x hc hx => ?_⟩
    cases j with
    | zero => simp at hc hx; subst hc hx; exact ⟨_, aR.drop (Ow' := Ow) (loc' := .blk 0) hrep, qP _⟩
    | succ j => exact h3 j c x (by simpa using hc) (by simpa using hx)
theorem aMb (fn : Func) (tmps : Array Value) : results fn tmps = (do let vs ← fn.results.mapM (zZ tmps); pure (if h : vs.size = 1 then vs[0] else .tuple vs)) := by
  unfold results
  congr 1
theorem aPF {tmps : Array Value} {fn : Func} {v : (SV m)} (h : Inv P s tmps w F N Ow bm) (hr : aIe P fn s = some v) {nn : Nat} (hfl : SV.homeOk fn.ntmps nn v = true) :
    ∃ u loc, (results fn tmps).run P w = .ok u w ∧ aR P w (aAQ fn.ntmps s w F bm) N Ow bm s.al loc v u ∧ (jK v = true → (∃ t, loc = .tmp t) ∨ ∃ b p, loc = .box b p ∧ b < fn.ntmps) := by
  unfold aIe at hr
  rw [aMb]
  split at hr
  · rename_i r hrs
    have hrs' : fn.results = #[r] := by rw [← hrs]
    obtain ⟨u, hu, hrep, hown⟩ := aNc h hr
    refine ⟨u, aPt s r, by rw [hrs']; simp [hu], hrep, fun ho => ?_⟩
    cases r with
    | tmp t => exact .inl ⟨t, rfl⟩
    | cell c t =>
      cases hp : s.tmps.getD c .any with
      | ptr b p => exact .inr ⟨b, p, by simp only [aPt, hp], hown ho b p (by simp only [aPt, hp])⟩
      | _ => simp only [aHx, hp] at hr; simp at hr
  · rename_i hne
    rw [Option.map_eq_some_iff] at hr
    obtain ⟨vs, hvs, rfl⟩ := hr
    obtain ⟨us, h1, h2, h3⟩ := aMi h _ vs hvs
    have hlen : us.length = fn.results.toList.length := by
      have : ∀ (rs : List ResultVar) (vs : List (SV m)), aFd P fn.ntmps s rs = some vs → vs.length = rs.length := by
        intro rs
        induction rs with
        | nil => intro vs h; simp [aFd] at h; subst h; rfl
        | cons r rs ih =>
          intro vs h
          simp only [aFd] at h
          rw [Option.bind_eq_some_iff] at h
          obtain ⟨v, _, h⟩ := h
          rw [Option.map_eq_some_iff] at h
          obtain ⟨vs', hvs, rfl⟩ := h
          simp [ih vs' hvs]
      rw [h2, this _ _ hvs]
    have hn1 : us.length ≠ 1 := by
      intro he
      rw [hlen] at he
      obtain ⟨r, hr⟩ := List.length_eq_one_iff.1 he
      exact hne r hr
    refine ⟨.tuple us.toArray, .blk 0, ?_, ⟨us.toArray, rfl, by simpa using h2, fun j c u hc hu => ?_⟩, fun ho => by simp [jK] at ho⟩
    · rw [Array.mapM_eq_mapM_toList]
      simp [h1, hn1]
    · obtain ⟨loc, hrep, hno⟩ := h3 j c u hc (by simpa using hu)
      have hfl : (SV.tup vs).flatT = true := hfl
      cases c with
      | own eo es => simp [jK] at hno
      | raw eo es => simp [jK] at hno
      | fn g caps => have := List.all_eq_true.1 hfl _ (List.mem_of_getElem? hc); simp [SV.flat] at this
      | tup vs => have := List.all_eq_true.1 hfl _ (List.mem_of_getElem? hc); simp [SV.flat] at this
      | _ => simpa only [aR] using hrep
def aOy (n : Nat) : Loc → Option Loc
  | .tmp t => some (.tmp t)
  | .blk i => some (.blk (n + i))
  | .box i j => some (.box (n + i) j)
def aIE (lr : Loc) (n : Nat) (l : Loc) : Option Loc :=
  if l = lr then some (.tmp 0) else match l with
    | .tmp _ => none
    | .blk b => if n ≤ b then some (.blk (b - n)) else none
    | .box b j => if n ≤ b then some (.box (b - n) j) else none
theorem aJj {n : Nat} {bs : (gU m)} {b : Nat} : aW (List.replicate n none ++ bs) b = if b < n then none else aW bs (b - n) := by
  unfold aW
  rw [List.getD_eq_getElem?_getD]
  split
  · rename_i h
    rw [List.getElem?_append_left (by simpa using h), List.getElem?_replicate]
    simp [h]
  · rename_i h
    rw [List.getElem?_append_right (by simpa using Nat.le_of_not_lt h), List.length_replicate, List.getD_eq_getElem?_getD]
theorem aR.renamed {w : World} {F : Fr} {Ow Ow' : Own} {bm bm' : Nat → Nat} {al al' : Nat → Bool} {loc loc' : Loc} {x : (SV m)} {v : Value} {f : Nat → Nat} (h : aR P w F N Ow bm al loc x v) (hx : x.handed = true)
    (hb : ∀ b, al b = true → bm' (f b) = bm b ∧ al' (f b) = true) (ho : jK x = true → ∀ g, Ow g = some loc → Ow' g = some loc') : aR P w F N Ow' bm' al' loc' (x.ren f) v := by
  refine h.handed hx (fun b hb' => hb b ?_) ho
  cases x with
  | ptr c o =>
    have : b = c := by simpa [SV.boxIds] using hb'
    subst this
    have h' : dF (m := m) w F N bm al (.ptr b o) v := by simpa only [aR] using h
    exact h'.2
  | bsl c z lo n =>
    have : b = c := by simpa [SV.boxIds] using hb'
    subst this
    exact (h.bslOf b z lo n rfl).2
  | fn g caps =>
    obtain ⟨vs, e, hs, hc⟩ := h
    obtain ⟨c, hc1, hc2⟩ := List.mem_flatMap.1 hb'
    obtain ⟨j, hj⟩ := List.getElem?_of_mem hc1
    have hlt : j < vs.size := by rw [hs]; exact (List.getElem?_eq_some_iff.1 hj).1
    have h0 := hc j c _ hj (Array.getElem?_eq_getElem hlt)
    cases c with
    | ptr d o =>
      have : b = d := by simpa using hc2
      subst this
      exact h0.2
    | kfn g' cs => exact h0.kal hc2
    | _ => simp at hc2
  | kfn g cs =>
    have h' : dF (m := m) w F N bm al (.kfn g cs) v := by simpa only [aR] using h
    exact h'.kal hb'
  | _ => simp [SV.boxIds] at hb'
theorem Inv.frame {args : List (SV m)} {boxes : List (List (SV m))} {vals : Array Value} (h : Inv P { tmps := args, boxes := boxes.map some } vals w F N Ow bm) (fn : Func) (hh : args.all SV.handed = true) (hf : ∀ c ∈ boxes, ∀ x ∈ c, x.flat = true) :
    Inv P (aBm fn args boxes) (vals ++ Array.replicate (fn.ntmps - vals.size) undef) w F N (fun g => (Ow g).bind (aOy fn.ntmps)) (fun b => bm (b - fn.ntmps)) := by
  have hlen : args.length = vals.size := h.len
  have hal : ∀ b, (aW (boxes.map some) b).isSome = true → bm (fn.ntmps + b - fn.ntmps) = bm b ∧ (aW (List.replicate fn.ntmps none ++ boxes.map some) (fn.ntmps + b)).isSome = true := by
    intro b hb
    rw [aJj, if_neg (by omega), Nat.add_sub_cancel_left]
    exact ⟨rfl, hb⟩
  refine ⟨by simp [aBm, aRP, hlen], fun t => ?_, fun b cs hb => ?_, h.low, fun g hg => ⟨(h.new g hg).1, by simp [(h.new g hg).2]⟩, fun b cs hb => ?_, fun g hz => ⟨by simp [(h.zow g hz).1], (h.zow g hz).2⟩⟩
  rotate_right
  · have hb' : aW (List.replicate fn.ntmps none ++ boxes.map some) b = some cs := hb
    rw [aJj] at hb'
    split at hb'
    · simp at hb'
    · exact h.bmn _ cs hb'
  · show aR P w F N _ _ (fun b => (aW (List.replicate fn.ntmps none ++ boxes.map some) b).isSome) (.tmp t) ((aRP fn.ntmps (args.map (SV.ren (fn.ntmps + ·)))).getD t .any) _
    rw [List.getD_eq_getElem?_getD, Array.getD_eq_getD_getElem?]
    unfold aRP
    by_cases ht : t < args.length
    · rw [List.getElem?_append_left (by simpa using ht), List.getElem?_map, List.getElem?_eq_getElem ht, Array.getElem?_append_left (by omega), Array.getElem?_eq_getElem (by omega)]
      simp only [Option.map_some, Option.getD_some]
      have hs := h.slot t
      have e1 : args.getD t .any = args[t] := by rw [List.getD_eq_getElem?_getD, List.getElem?_eq_getElem ht]; rfl
      have e2 : vals.getD t undef = vals[t]'(by omega) := by simp [Array.getD, show t < vals.size by omega]
      simp only at hs
      rw [e1, e2] at hs
      exact hs.renamed (List.all_eq_true.1 hh _ (List.getElem_mem ht)) hal fun _ g hg => by rw [hg]; rfl
    · rw [List.getElem?_append_right (by simpa using Nat.le_of_not_lt ht), Array.getElem?_append_right (by omega), List.getElem?_replicate]
      split
      · rename_i hl
        simp only [List.length_map] at hl
        rw [Array.getElem?_replicate, if_pos (by omega)]
        simp only [Option.getD_some, aR, dF]
      · exact aR.any
  · have hb' : aW (List.replicate fn.ntmps none ++ boxes.map some) b = some cs := hb
    rw [aJj] at hb'
    split at hb'
    · simp at hb'
    · rename_i hlt
      rcases h.box (b - fn.ntmps) cs hb' with g0 | ⟨cur, e, g1, g2, g3, g4, g5⟩
      · exact .inl g0
      have hmem : cs ∈ boxes := by
        have hl := rH hb'
        unfold aW at hb'
        rw [List.getD_eq_getElem?_getD, List.getElem?_map] at hb'
        cases hx : boxes[b - fn.ntmps]? with
        | none => rw [hx] at hb'; simp at hb'
        | some y => rw [hx] at hb'; simp at hb'; subst hb'; exact List.mem_of_getElem? hx
      have hbb : fn.ntmps + (b - fn.ntmps) = b := by omega
      refine .inr ⟨cur, e, g1, g2, g3, by rw [g4]; simp [aOy, hbb], fun j c u hc hu => (g5 j c u hc hu).flat (aCN (hf cs hmem c (List.mem_of_getElem? hc))) fun _ g hg => ?_⟩
      rw [hg]
      simp [aOy, hbb]
theorem aId {nt n : Nat} {x : SV m} (h : SV.homeOk nt n x = true) : (∃ b z lo k, x = .bsl b z lo k ∧ nt ≤ b ∧ b < nt + n) ∨ x.flatT = true := by
  cases x
  case bsl b z lo k => exact .inl ⟨b, z, lo, k, rfl, by simpa only [SV.homeOk, Bool.and_eq_true, decide_eq_true_eq] using h⟩
  all_goals exact .inr h
theorem aN3 {nt n : Nat} {x : SV m} (h : SV.homeOk nt n x = true) : (x.ren (· - nt)).backOk n = true := by
  rcases aId h with ⟨b, z, lo, k, rfl, h1, h2⟩ | h'
  · simp only [SV.ren, SV.backOk, decide_eq_true_eq]; omega
  · rw [aFZ h']
    cases x <;> first | exact h' | simp [SV.flatT, SV.flat] at h'
theorem aR.home {w : World} {F : Fr} {Ow Ow' : Own} {bm bm' : Nat → Nat} {al al' : Nat → Bool} {loc loc' : Loc} {x : (SV m)} {v : Value} {f : Nat → Nat} {nt n : Nat} (h : aR P w F N Ow bm al loc x v) (hx : SV.homeOk nt n x = true)
    (hb : ∀ b, nt ≤ b → b < nt + n → bm' (f b) = bm b ∧ al' (f b) = true) (ho : jK x = true → ∀ g, Ow g = some loc → Ow' g = some loc') : aR P w F N Ow' bm' al' loc' (x.ren f) v := by
  rcases aId hx with ⟨b, z, lo, k, rfl, h1, h2⟩ | hx'
  · exact h.handed rfl (fun c hc => by
      obtain rfl : c = b := by simpa [SV.boxIds] using hc
      exact hb c h1 h2) ho
  · rw [aFZ hx']
    exact h.flat hx' ho
theorem Inv.leave {s : (St m)} {tmps : Array Value} {fn : Func} {n : Nat} {r : (SV m) × List (List (SV m))} (h : Inv P s tmps w F N Ow bm) (hr : wO P fn n s = some r) :
    r.2.length = n ∧ r.1.backOk n = true ∧ (∀ cs ∈ r.2, ∀ c ∈ cs, c.flat = true) ∧ ∃ u Ow' F', (results fn tmps).run P w = .ok u w ∧ Inv P { tmps := [r.1], boxes := r.2.map some } #[u] w F' N Ow' (fun i => bm (fn.ntmps + i)) ∧ eN N w F w F' ∧ ∀ g, Ow g = none → F' g = F g ∧ Ow' g = none := by
  have hk := yB h fn.ntmps
  unfold wO at hr
  rw [Option.bind_eq_some_iff] at hr
  obtain ⟨v, hv, hr⟩ := hr
  obtain ⟨hfl, hr⟩ := aU hr
  rw [Option.bind_eq_some_iff] at hr
  obtain ⟨cs, hcs, hr⟩ := hr
  obtain ⟨hfc, hr⟩ := aU hr
  simp only [Option.some.injEq] at hr
  subst hr
  obtain ⟨hl, hg⟩ := uB hcs
  simp only [List.length_map, List.length_range] at hl
  have hfc' : ∀ c ∈ cs, ∀ x ∈ c, x.flat = true := fun c hc x hx => List.all_eq_true.1 (List.all_eq_true.1 hfc c hc) x hx
  obtain ⟨u, lr, hrun, hrep, hown⟩ := aPF h hv hfl
  have hlr : ∃ lr', aR P w (aAQ fn.ntmps s w F bm) N Ow bm s.al lr' v u ∧ (∀ b, n ≠ 0 → fn.ntmps ≤ b → lr' ≠ .blk b ∧ ∀ j, lr' ≠ .box b j) := by
    cases ho : jK v with
    | true =>
      rcases hown ho with ⟨t, rfl⟩ | ⟨b, p, rfl, hb⟩
      · exact ⟨_, hrep, fun b _ _ => ⟨by simp, by simp⟩⟩
      · refine ⟨_, hrep, fun c _ hc => ⟨by simp, fun j he => ?_⟩⟩
        cases he
        exact absurd hb (Nat.not_lt.2 hc)
    | false => exact ⟨.tmp 0, hrep.to (eN.refl _ _) (fun b hb => ⟨rfl, hb⟩) (fun h => by rw [ho] at h; simp at h), fun b _ _ => ⟨by simp, by simp⟩⟩
  obtain ⟨lr', hrep', hne⟩ := hlr
  have hnone : ∀ g, Ow g = none → aAQ fn.ntmps s w F bm g = F g := fun g hg' => aMf fun b hb hal he => by
    obtain ⟨cs0, hcs0, hne0⟩ := aO2 hal
    obtain ⟨_, _, _, _, _, ho, _⟩ := (h.box b cs0 hcs0).resolve_left hne0
    rw [he, hg'] at ho
    simp at ho
  have hbox : ∀ i c, aW (cs.map some) i = some c → i < n ∧ cs[i]? = some c ∧ aW s.boxes (fn.ntmps + i) = some c := by
    intro i c hc'
    have hci : cs[i]? = some c := by
      unfold aW at hc'
      rw [List.getD_eq_getElem?_getD, List.getElem?_map] at hc'
      cases hx : cs[i]? with
      | none => rw [hx] at hc'; simp at hc'
      | some y => rw [hx] at hc'; simpa using hc'
    have hin : i < n := by rw [← hl]; exact (List.getElem?_eq_some_iff.1 hci).1
    obtain ⟨c2, h1, h2⟩ := hg i (fn.ntmps + i) (by rw [List.getElem?_map, List.getElem?_range hin]; rfl)
    rw [hci] at h1
    cases h1
    exact ⟨hin, hci, h2⟩
  refine ⟨hl, aN3 hfl, hfc', u, fun g => (Ow g).bind (aIE lr' fn.ntmps), aAQ fn.ntmps s w F bm, hrun, ⟨rfl, fun t => ?_, fun i c hc => ?_, h.low.to (yB h _) (Nat.le_refl _), fun g hg' => ⟨(hnone g (h.new g hg').2).trans (h.new g hg').1, by simp [(h.new g hg').2]⟩, fun i c hc => h.bmn _ c (hbox i c hc).2.2, fun g hz => ⟨by simp [(h.zow g hz).1], (h.zow g hz).2⟩⟩, hk, fun g hg' => ⟨hnone g hg', by simp [hg']⟩⟩
  · cases t with
    | zero =>
      simp only [List.getD_cons_zero]
      refine hrep'.home hfl (fun b h1 h2 => ⟨by show bm (fn.ntmps + (b - fn.ntmps)) = bm b; rw [Nat.add_sub_cancel' h1], ?_⟩) fun _ g hg' => by rw [hg']; simp [aIE]
      show (aW (cs.map some) (b - fn.ntmps)).isSome = true
      unfold aW
      rw [List.getD_eq_getElem?_getD, List.getElem?_map, List.getElem?_eq_getElem (by omega)]; rfl
    | succ t => exact aR.any
  · obtain ⟨hin, hci, h2⟩ := hbox i c hc
    rcases h.box _ _ h2 with g0 | ⟨cur, e, g1, g2, g3, g4, g5⟩
    · exact .inl g0
    obtain ⟨n1, n2⟩ := hne (fn.ntmps + i) (by omega) (by omega)
    refine .inr ⟨cur, e, g1, g2, (aF1 h g4 (fun b hb => by simp; omega)).trans g3, ?_, fun j x y hx hy => ((g5 j x y hx hy).to hk (fun b hb => ⟨rfl, hb⟩) fun _ g hg => ⟨rfl, aF1 h hg (fun b _ => by simp), hg⟩).flat (aCN (hfc' c (List.mem_of_getElem? hci) x (List.mem_of_getElem? hx))) fun _ g hg' => ?_⟩
    · rw [g4]
      simp [aIE, n1.symm]
    · rw [hg']
      simp [aIE, (n2 j).symm]
theorem aS2 {D : (bK m)} {H : gB} {loop : ((St m) → Option (Out m)) → ((St m) → Option (St m)) → (St m) → Option (Out m)} : ∀ (c : Code) (blk : Nat) {β : Type} (k : (Out m) → Option β) (y : β) (s : (St m)), eU P D H loop blk c s k = some y → ∃ out, k out = some y := by
  intro c
  induction c with
  | skip => intro blk β k y s h; exact ⟨_, h⟩
  | region id ops draw =>
    intro blk β k y s h
    simp only [eU] at h
    obtain ⟨_, h⟩ := aU h
    rw [mT, Option.bind_eq_some_iff] at h
    obtain ⟨s', _, h⟩ := h
    exact ⟨_, h⟩
  | seq c1 c2 ih1 ih2 =>
    intro blk β k y s h
    simp only [eU] at h
    obtain ⟨out, ho⟩ := ih1 blk _ y s h
    cases out with
    | norm s' => exact ih2 blk k y s' ho
    | exit id s' => exact ⟨_, ho⟩
    | ret s' => exact ⟨_, ho⟩
  | cond x c1 c2 ih1 ih2 =>
    intro blk β k y s h
    simp only [eU] at h
    obtain ⟨b, _, h⟩ := uG h
    rw [nY] at h
    split at h
    · exact ih1 blk k y _ h
    · exact ih2 blk k y _ h
  | block id c ih =>
    intro blk β k y s h
    simp only [eU] at h
    obtain ⟨out, ho⟩ := ih id _ y s h
    cases out with
    | norm s' => exact ⟨_, ho⟩
    | exit id' s' =>
      simp only [uJ] at ho
      split at ho
      · exact ⟨_, ho⟩
      · exact ⟨_, ho⟩
    | ret s' => exact ⟨_, ho⟩
  | loop c ih =>
    intro blk β k y s h
    simp only [eU] at h
    rw [Option.bind_eq_some_iff] at h
    obtain ⟨out, _, h⟩ := h
    exact ⟨out, h⟩
  | exit id => intro blk β k y s h; exact ⟨_, h⟩
  | ret => intro blk β k y s h; exact ⟨_, h⟩
  | _ => intro blk β k y s h; simp [eU] at h
theorem aSY (hP : P.follows .mixedOrders = true) (hG : P.funcs.all (fun fn => !(fn.name == "runtime.NumGoroutine")) = true) {D : (bK m)} (hD : lS P N D) (H : FuncId → gB) (n : Nat) : lS P N (aOM P D H (aGv n)) := by
  intro f args boxes r hr hh hf
  unfold aOM at hr
  split at hr
  · rename_i fn hfn
    split at hr
    · rename_i c hc
      have hname : (fn.name == "runtime.NumGoroutine") = false := by
        rw [Array.all_eq_true_iff_forall_mem] at hG
        have := hG fn (Array.mem_of_getElem? hfn)
        simpa using this
      have base : ∀ (w : World) (F : Fr) (Ow : Own) (bm : Nat → Nat) (vals : Array Value), Inv P { tmps := args, boxes := boxes.map some } vals w F N Ow bm →
          Calls P f vals w fun e w' => ∃ v F' Ow', e = .returned v ∧ Inv P { tmps := [r.1], boxes := r.2.map some } #[v] w' F' N Ow' bm ∧ Far N w F Ow w' F' Ow' := by
        intro w F Ow bm vals h
        refine calls_of_wp hfn hc ?_
        have h1 := h.frame fn hh hf
        obtain ⟨F0, O0, b0, e1, e2, e3⟩ := h1.freeze fn.ntmps ((H f).fz 1048576)
        have hlen : (St.freeze fn.ntmps (aBm fn args boxes) ((H f).fz 1048576)).boxes.length = fn.ntmps + boxes.length := by rw [rK]; simp [aBm]
        refine aMg (nt := fn.ntmps) hP hD rfl n (fn.ntmps + boxes.length) (by omega) c 0 _ r _ { tmps := vals ++ Array.replicate (fn.ntmps - vals.size) undef, defers := [] } w F0 O0 b0 _ hr e1 hlen fun out ex a' w' ho he => ?_
        have fin : ∀ s', wO P fn boxes.length s' = some r → kS P N fn.ntmps s' { tmps := vals ++ Array.replicate (fn.ntmps - vals.size) undef, defers := [] } w F0 O0 b0 a' w' →
            a'.defers = [] ∧ ∃ v, (results fn a'.tmps).run P w' = .ok v w' ∧ ∃ v1 F' Ow', Ending.returned v = .returned v1 ∧ Inv P { tmps := [r.1], boxes := r.2.map some } #[v1] w' F' N Ow' bm ∧ Far N w F Ow w' F' Ow' := by
          intro s' hl hst
          obtain ⟨F1, O1, b1, k1, k2, k3, k4⟩ := hst
          replace k2 := e2.trans k2
          obtain ⟨l1, l2, l3, u, O2, F2, l4, l5, l7, l6⟩ := k1.leave hl
          refine ⟨k4, u, l4, u, F2, O2, rfl, ?_, ⟨k2.os, k2.tape, k2.output, k2.size, k2.keeps.trans l7, fun g hg ho => ?_⟩⟩
          · have : (fun i => b1 (fn.ntmps + i)) = bm := by
              funext i
              rw [k3 (fn.ntmps + i) (by omega), e3 (fn.ntmps + i) (by omega)]
              show bm (fn.ntmps + i - fn.ntmps) = bm i
              rw [Nat.add_sub_cancel_left]
            rw [this] at l5
            exact l5
          · obtain ⟨q1, q2, q3⟩ := k2.old g hg (by simp [ho])
            exact ⟨q1, (l6 g q3).1.trans q2, (l6 g q3).2⟩
        cases out <;> cases ex <;> simp only [aBW] at he
        · exact fin _ ho he.1
        · simp [aTR] at ho
        · exact fin _ ho he.1
      have shape : r.2.length = boxes.length ∧ r.1.backOk boxes.length = true ∧ (∀ cs ∈ r.2, ∀ c ∈ cs, c.flat = true) := by
        obtain ⟨out, ho⟩ := aS2 c 0 _ r _ hr
        have lv : ∀ s', wO P fn boxes.length s' = some r → r.2.length = boxes.length ∧ r.1.backOk boxes.length = true ∧ (∀ cs ∈ r.2, ∀ c ∈ cs, c.flat = true) := by
          intro s' hl
          unfold wO at hl
          rw [Option.bind_eq_some_iff] at hl
          obtain ⟨v, hv, hl⟩ := hl
          obtain ⟨hfl, hl⟩ := aU hl
          rw [Option.bind_eq_some_iff] at hl
          obtain ⟨cs, hcs, hl⟩ := hl
          obtain ⟨hfc, hl⟩ := aU hl
          simp only [Option.some.injEq] at hl
          subst hl
          exact ⟨by simpa using (uB hcs).1, aN3 hfl, fun c hc x hx => List.all_eq_true.1 (List.all_eq_true.1 hfc c hc) x hx⟩
        cases out with
        | norm s => exact lv s ho
        | ret s => exact lv s ho
        | exit id s => simp [aTR] at ho
      exact ⟨shape.1, shape.2.1, shape.2.2, ⟨fn, hfn, hname, by rw [hc]; rfl⟩, base⟩
    · simp at hr
  · simp at hr
end
end Go.Vs
end
section
namespace Go.Vs
variable {m : Bool}
variable {P : Program} {N : Env}
def aMn (P : Program) (N : Env) (T : (aLb m)) : Prop := ∀ (f : FuncId) t, T f = some t → lS P N (fun g args boxes => if g = f then t args boxes else none)
theorem aMo (hP : P.follows .mixedOrders = true) (hG : P.funcs.all (fun fn => !(fn.name == "runtime.NumGoroutine")) = true) {T : (aLb m)} (hT : aMn P N T) (H : FuncId → gB) : ∀ n, lS P N (aBh P T H n)
  | 0 => by intro f args boxes r hr; simp [aBh] at hr
  | n + 1 => by
    intro f args boxes r hr
    simp only [aBh] at hr
    split at hr
    · rename_i t ht
      exact hT f t ht f args boxes r (by simpa using hr)
    · exact aSY hP hG (aMo hP hG hT H n) H n f args boxes r hr
theorem aPV : aMn (m := m) P N (fun _ => none) := by intro f t h; simp at h
end Go.Vs
end
section
set_option linter.unusedVariables false
set_option linter.unusedSimpArgs false
namespace Go.Vs
variable {m : Bool}
variable {P : Program}
def DLe (D D' : (bK m)) : Prop := ∀ f a b r, D f a b = some r → D' f a b = some r
theorem aVt {D D' : (bK m)} {nt : Nat} {mv pu ta : Bool} {o : Oper} {ρ : Operand → (SV m)} {bs : (gU m)} (h : ∀ c g, o.op = .call c → c.callee ≠ .value g) : cV P D nt mv pu ta o ρ bs = cV P D' nt mv pu ta o ρ bs := by
  cases hop : o.op
  case call c =>
    cases hc : c.callee with
    | value g => exact absurd hc (h c g hop)
    | builtin b => simp only [cV, hop, hc]
    | invoke r m => simp only [cV, hop, hc]
  all_goals simp only [cV, hop]
theorem aQV {D : (bK m)} {bs : (gU m)} {pu : Bool} {f : FuncId} {args : List (SV m)} {q : (SV m) × Option (gU m)} (h : aEX D bs pu f args = some q) : ∃ a b r, D f a b = some r ∧ ∀ D' : (bK m), D' f a b = some r → aEX D' bs pu f args = some q := by
  unfold aEX at h
  obtain ⟨h1, h2⟩ := aU h
  split at h2
  · rename_i hp
    split at h2
    · rename_i hi
      rw [Option.map_eq_some_iff] at h2
      obtain ⟨r, hr, he⟩ := h2
      refine ⟨args, [], r, hr, fun D' hd => ?_⟩
      unfold aEX
      rw [h1]
      simp only [aA, if_pos hp, if_pos hi, hd, Option.map_some, he]
    · simp at h2
  · rename_i hp
    rw [Option.bind_eq_some_iff] at h2
    obtain ⟨cs, hcs, h3⟩ := h2
    obtain ⟨h4, h5⟩ := aU h3
    rw [Option.map_eq_some_iff] at h5
    obtain ⟨r, hr, he⟩ := h5
    refine ⟨_, cs, r, hr, fun D' hd => ?_⟩
    unfold aEX
    rw [h1]
    simp only [aA, if_neg hp, hcs, Option.bind_some, h4, hd, Option.map_some, he]
theorem aN6 {D : (bK m)} {nt : Nat} {mv pu ta : Bool} {o : Oper} {ρ : Operand → (SV m)} {bs : (gU m)} {e : (Eff m)} (h : cV P D nt mv pu ta o ρ bs = some e) :
    (∀ D', cV P D' nt mv pu ta o ρ bs = some e) ∨ ∃ f a b r, D f a b = some r ∧ ∀ D' : (bK m), D' f a b = some r → cV P D' nt mv pu ta o ρ bs = some e := by
  by_cases hv : ∀ c g, o.op = .call c → c.callee ≠ .value g
  · exact .inl fun D' => by rw [← aVt (D := D) hv]; exact h
  · right
    have : ∃ c g, o.op = .call c ∧ c.callee = .value g := by
      refine Classical.byContradiction fun hn => hv fun c g hop hc => hn ⟨c, g, hop, hc⟩
    obtain ⟨c, g, hop, hc⟩ := this
    simp only [cV, hop, hc] at h ⊢
    split at h
    · rename_i f caps hge
      obtain ⟨h1, h2⟩ := aU h
      rw [Option.map_eq_some_iff] at h2
      obtain ⟨q, hq, he⟩ := h2
      obtain ⟨a, b, r, hr, hall⟩ := aQV hq
      refine ⟨f, a, b, r, hr, fun D' hd => ?_⟩
      simp only [h1, aA, hall D' hd, Option.map_some, he]
    · simp at h
section
variable {nt : Nat} {mv pu ta : Nat → Bool} {ops : Array Oper}
theorem aQQ {D : (bK m)} {mq p qa : Bool} {o : Oper} {s : (St m)} {e : (Eff m)} (h : mK P D nt mq p qa ops o s = some e) :
    (∀ D', mK P D' nt mq p qa ops o s = some e) ∨ ∃ f a b r, D f a b = some r ∧ ∀ D' : (bK m), D' f a b = some r → mK P D' nt mq p qa ops o s = some e := by
  unfold mK at h ⊢
  split at h
  · exact aN6 h
  · rename_i j want hg
    split at h
    · rename_i t ht
      unfold pQ at h ⊢
      split at h
      · rename_i b hb
        rw [nY] at h
        split at h
        · rename_i hbw
          simp only [nY, hbw, if_true]
          exact aN6 h
        · rename_i hbw
          simp only [nY, hbw]
          exact .inl fun _ => h
      · exact .inl fun _ => h
      · simp at h
    · simp at h
structure aVc (Dn : Nat → (bK m)) (D : (bK m)) : Prop where
  mono : ∀ n m, n ≤ m → DLe (Dn n) (Dn m)
  lim : ∀ f a b r, D f a b = some r → ∃ n, Dn n f a b = some r
theorem aHZ {Dn : Nat → (bK m)} {D : (bK m)} (hC : aVc Dn D) : ∀ (l : List Oper) (i : Nat) (s s' : (St m)), kY P D nt mv pu ta ops l i s some = some s' → ∃ n, ∀ m, n ≤ m → kY P (Dn m) nt mv pu ta ops l i s some = some s'
  | [], i, s, s', h => ⟨0, fun _ _ => h⟩
  | o :: l, i, s, s', h => by
    simp only [kY, aAa] at h
    obtain ⟨e, he, hrest⟩ := Option.bind_eq_some_iff.1 h
    obtain ⟨n2, h2⟩ := aHZ hC l (i + 1) _ s' hrest
    have h1 : ∃ n, ∀ m, n ≤ m → mK P (Dn m) nt (mv i) (pu i) (ta i) ops o s = some e := by
      rcases aQQ he with hx | ⟨f, a, b, r, hr, hx⟩
      · exact ⟨0, fun m _ => hx _⟩
      · obtain ⟨n, hn⟩ := hC.lim f a b r hr
        exact ⟨n, fun m hm => hx _ (hC.mono n m hm _ _ _ _ hn)⟩
    obtain ⟨n1, h1⟩ := h1
    refine ⟨max n1 n2, fun m hm => ?_⟩
    simp only [kY, aAa]
    rw [h1 m (by omega), Option.bind_some]
    exact h2 m (by omega)
end
theorem iU {D : (bK m)} {H : gB} {loop : ((St m) → Option (Out m)) → ((St m) → Option (St m)) → (St m) → Option (Out m)} : ∀ (c : Code) (blk : Nat) {β : Type} (k : (Out m) → Option β) (s : (St m)), eU P D H loop blk c s k = (eU P D H loop blk c s some).bind k := by
  intro c
  induction c with
  | skip => intro blk β k s; rfl
  | region id ops draw =>
    intro blk β k s
    simp only [eU]
    cases hb : (!draw || aAf (H.mv id) (H.pure id) (H.take id) ops) with
    | false => rfl
    | true =>
      simp only [aA]
      rw [mT, mT (k := fun s' => some (Out.norm (St.freeze H.nt (s'.tidy (H.after id) (H.afterB id)) (H.fz id)))), Option.bind_assoc]
      rfl
  | seq c1 c2 ih1 ih2 =>
    intro blk β k s
    simp only [eU]
    refine (ih1 blk _ s).trans (Eq.trans ?_ (congrArg (fun x => Option.bind x k) (ih1 blk _ s).symm))
    rw [Option.bind_assoc]
    congr 1
    funext o
    cases o with
    | norm s' => exact ih2 blk k s'
    | exit id s' => rfl
    | ret s' => rfl
  | cond x c1 c2 ih1 ih2 =>
    intro blk β k s
    simp only [eU]
    unfold oM
    split
    · rename_i b _
      cases b
      · exact ih2 blk k _
      · exact ih1 blk k _
    · rfl
  | block id c ih =>
    intro blk β k s
    simp only [eU]
    refine (ih id _ s).trans (Eq.trans ?_ (congrArg (fun x => Option.bind x k) (ih id _ s).symm))
    rw [Option.bind_assoc]
    congr 1
    funext o
    cases o with
    | norm s' => rfl
    | exit id' s' => simp only [uJ, Option.bind_some]; split <;> rfl
    | ret s' => rfl
  | loop c ih =>
    intro blk β k s
    simp only [eU, Option.bind_some]
    cases loop (fun s => eU P D H loop blk c s some) (fun s => s.again (H.clear blk) (H.drop blk)) s <;> rfl
  | exit id => intro blk β k s; rfl
  | ret => intro blk β k s; rfl
  | _ => intro blk β k s; rfl
theorem tT {body body' : (St m) → Option (Out m)} {again : (St m) → Option (St m)} (hb : ∀ s o, body s = some o → body' s = some o) : ∀ (n m : Nat), n ≤ m → ∀ s o, rounds body again n s = some o → rounds body' again m s = some o
  | 0, _, _, s, o, h => by simp [rounds] at h
  | n + 1, 0, hm, _, _, _ => by omega
  | n + 1, m + 1, hm, s, o, h => by
    simp only [rounds] at h ⊢
    rw [Option.bind_eq_some_iff] at h
    obtain ⟨s2, ha, h⟩ := h
    rw [Option.bind_eq_some_iff] at h
    obtain ⟨o2, h2, h⟩ := h
    rw [ha, Option.bind_some, hb _ _ h2, Option.bind_some]
    cases o2 with
    | norm s' => exact tT hb n m (by omega) s' o h
    | exit id s' => exact h
    | ret s' => exact h
noncomputable def bA : ((St m) → Option (Out m)) → ((St m) → Option (St m)) → (St m) → Option (Out m) := fun body again s =>
  open Classical in if h : ∃ n o, rounds body again n s = some o then some (Classical.choose (Classical.choose_spec h)) else none
theorem aCo {body : (St m) → Option (Out m)} {again : (St m) → Option (St m)} {s : (St m)} {o : (Out m)} : bA body again s = some o ↔ ∃ n, rounds body again n s = some o := by
  unfold bA
  constructor
  · intro h
    split at h
    · rename_i hx
      simp only [Option.some.injEq] at h
      subst h
      exact ⟨_, Classical.choose_spec (Classical.choose_spec hx)⟩
    · simp at h
  · rintro ⟨n, hn⟩
    have hx : ∃ n o, rounds body again n s = some o := ⟨n, o, hn⟩
    rw [dif_pos hx]
    have h1 := Classical.choose_spec (Classical.choose_spec hx)
    have h2 := tT (body := body) (again := again) (fun _ _ h => h) _ (max n (Classical.choose hx)) (Nat.le_max_right _ _) s _ h1
    have h3 := tT (body := body) (again := again) (fun _ _ h => h) n (max n (Classical.choose hx)) (Nat.le_max_left _ _) s _ hn
    rw [h2] at h3
    exact h3
theorem aJ9 (body : (St m) → Option (Out m)) (again : (St m) → Option (St m)) (s : (St m)) : bA body again s = (again s).bind fun s => (body s).bind fun | .norm s' => bA body again s' | o => some o := by
  apply Option.ext
  intro o
  rw [aCo]
  constructor
  · rintro ⟨n, hn⟩
    cases n with
    | zero => simp [rounds] at hn
    | succ n =>
      simp only [rounds] at hn
      rw [Option.bind_eq_some_iff] at hn ⊢
      obtain ⟨s2, ha, h⟩ := hn
      refine ⟨s2, ha, ?_⟩
      rw [Option.bind_eq_some_iff] at h ⊢
      obtain ⟨o2, h2, h⟩ := h
      refine ⟨o2, h2, ?_⟩
      cases o2 with
      | norm s' => exact aCo.2 ⟨n, h⟩
      | exit id s' => exact h
      | ret s' => exact h
  · intro h
    rw [Option.bind_eq_some_iff] at h
    obtain ⟨s2, ha, h⟩ := h
    rw [Option.bind_eq_some_iff] at h
    obtain ⟨o2, h2, h⟩ := h
    cases o2 with
    | norm s' =>
      obtain ⟨n, hn⟩ := aCo.1 h
      exact ⟨n + 1, by simp only [rounds]; rw [ha, Option.bind_some, h2, Option.bind_some]; exact hn⟩
    | exit id s' => exact ⟨1, by simp only [rounds]; rw [ha, Option.bind_some, h2, Option.bind_some]; exact h⟩
    | ret s' => exact ⟨1, by simp only [rounds]; rw [ha, Option.bind_some, h2, Option.bind_some]; exact h⟩
theorem aNM {Dn : Nat → (bK m)} {D : (bK m)} (hC : aVc Dn D) {H : gB} : ∀ (c : Code) (blk : Nat) (s : (St m)) (o : (Out m)), eU P D H bA blk c s some = some o → ∃ n, ∀ m, n ≤ m → eU P (Dn m) H (aGv m) blk c s some = some o := by
  intro c
  induction c with
  | skip => intro blk s o h; exact ⟨0, fun _ _ => h⟩
  | region id ops draw =>
    intro blk s o h
    simp only [eU] at h ⊢
    obtain ⟨hg, h⟩ := aU h
    rw [mT, Option.bind_eq_some_iff] at h
    obtain ⟨s', hs, ho⟩ := h
    obtain ⟨n, hn⟩ := aHZ hC _ _ _ _ hs
    refine ⟨n, fun m hm => ?_⟩
    rw [hg]
    simp only [aA]
    rw [mT, hn m hm, Option.bind_some]
    exact ho
  | seq c1 c2 ih1 ih2 =>
    intro blk s o h
    simp only [eU] at h ⊢
    rw [iU, Option.bind_eq_some_iff] at h
    obtain ⟨o1, h1, h2⟩ := h
    obtain ⟨n1, hn1⟩ := ih1 blk s o1 h1
    cases o1 with
    | norm s' =>
      obtain ⟨n2, hn2⟩ := ih2 blk s' o h2
      refine ⟨max n1 n2, fun m hm => ?_⟩
      rw [iU, hn1 m (by omega), Option.bind_some]
      exact hn2 m (by omega)
    | exit id s' => exact ⟨n1, fun m hm => by rw [iU, hn1 m hm, Option.bind_some]; exact h2⟩
    | ret s' => exact ⟨n1, fun m hm => by rw [iU, hn1 m hm, Option.bind_some]; exact h2⟩
  | cond x c1 c2 ih1 ih2 =>
    intro blk s o h
    simp only [eU] at h ⊢
    obtain ⟨b, hb, h⟩ := uG h
    rw [hb]
    simp only [oM]
    cases b
    · exact ih2 blk _ o h
    · exact ih1 blk _ o h
  | block id c ih =>
    intro blk s o h
    simp only [eU] at h ⊢
    rw [iU, Option.bind_eq_some_iff] at h
    obtain ⟨o1, h1, h2⟩ := h
    obtain ⟨n1, hn1⟩ := ih id s o1 h1
    exact ⟨n1, fun m hm => by rw [iU, hn1 m hm, Option.bind_some]; exact h2⟩
  | loop c ih =>
    intro blk s o h
    simp only [eU, Option.bind_some] at h ⊢
    rw [Option.bind_eq_some_iff] at h
    obtain ⟨o1, h1, h2⟩ := h
    simp only [Option.some.injEq] at h2
    subst h2
    obtain ⟨n, hn⟩ := aCo.1 h1
    have key : ∀ (n : Nat) (s : (St m)), rounds (fun s => eU P D H bA blk c s some) (fun s => s.again (H.clear blk) (H.drop blk)) n s = some o1 → ∃ n1, ∀ m, n1 ≤ m → rounds (fun s => eU P (Dn m) H (aGv m) blk c s some) (fun s => s.again (H.clear blk) (H.drop blk)) n s = some o1 := by
      intro n
      induction n with
      | zero => intro s h; simp [rounds] at h
      | succ n ihn =>
        intro s h
        simp only [rounds] at h ⊢
        rw [Option.bind_eq_some_iff] at h
        obtain ⟨s2, ha, h⟩ := h
        rw [Option.bind_eq_some_iff] at h
        obtain ⟨o2, h2, h⟩ := h
        obtain ⟨n1, hn1⟩ := ih blk s2 o2 h2
        cases o2 with
        | norm s' =>
          obtain ⟨n2, hn2⟩ := ihn s' h
          exact ⟨max n1 n2, fun m hm => by rw [ha, Option.bind_some, hn1 m (by omega), Option.bind_some]; exact hn2 m (by omega)⟩
        | exit id s' => exact ⟨n1, fun m hm => by rw [ha, Option.bind_some, hn1 m hm, Option.bind_some]; exact h⟩
        | ret s' => exact ⟨n1, fun m hm => by rw [ha, Option.bind_some, hn1 m hm, Option.bind_some]; exact h⟩
    obtain ⟨n1, hn1⟩ := key n s hn
    refine ⟨max n n1, fun m hm => ?_⟩
    have h3 := hn1 m (by omega)
    have h4 := tT (fun _ _ h => h) n m (by omega) s o1 h3
    show ((aGv m) _ _ s).bind some = some o1
    simp only [aGv]
    rw [h4]
    rfl
  | exit id => intro blk s o h; exact ⟨0, fun _ _ => h⟩
  | ret => intro blk s o h; exact ⟨0, fun _ _ => h⟩
  | _ => intro blk s o h; simp [eU] at h
theorem aQz {nt : Nat} {mv pu ta : Nat → Bool} {ops : Array Oper} {D D' : (bK m)} (hD : DLe D D') (l : List Oper) (i : Nat) (s s' : (St m)) (h : kY P D nt mv pu ta ops l i s some = some s') : kY P D' nt mv pu ta ops l i s some = some s' := by
  obtain ⟨n, hn⟩ := aHZ (Dn := fun _ => D') (D := D) ⟨fun _ _ _ _ _ _ _ h => h, fun f a b r h => ⟨0, hD f a b r h⟩⟩ l i s s' h
  exact hn n (Nat.le_refl _)
theorem aRa {D D' : (bK m)} (hD : DLe D D') {H : gB} {n n' : Nat} (hn : n ≤ n') : ∀ (c : Code) (blk : Nat) (s : (St m)) (o : (Out m)), eU P D H (aGv n) blk c s some = some o → eU P D' H (aGv n') blk c s some = some o := by
  intro c
  induction c with
  | skip => intro blk s o h; exact h
  | region id ops draw =>
    intro blk s o h
    simp only [eU] at h ⊢
    obtain ⟨hg, h⟩ := aU h
    rw [mT, Option.bind_eq_some_iff] at h
    obtain ⟨s', hs, ho⟩ := h
    rw [hg]
    simp only [aA]
    rw [mT, aQz hD _ _ _ _ hs, Option.bind_some]
    exact ho
  | seq c1 c2 ih1 ih2 =>
    intro blk s o h
    simp only [eU] at h ⊢
    rw [iU, Option.bind_eq_some_iff] at h
    obtain ⟨o1, h1, h2⟩ := h
    rw [iU, ih1 blk s o1 h1, Option.bind_some]
    cases o1 with
    | norm s' => exact ih2 blk s' o h2
    | exit id s' => exact h2
    | ret s' => exact h2
  | cond x c1 c2 ih1 ih2 =>
    intro blk s o h
    simp only [eU] at h ⊢
    obtain ⟨b, hb, h⟩ := uG h
    rw [hb]
    simp only [oM]
    cases b
    · exact ih2 blk _ o h
    · exact ih1 blk _ o h
  | block id c ih =>
    intro blk s o h
    simp only [eU] at h ⊢
    rw [iU, Option.bind_eq_some_iff] at h
    obtain ⟨o1, h1, h2⟩ := h
    rw [iU, ih id s o1 h1, Option.bind_some]
    exact h2
  | loop c ih =>
    intro blk s o h
    simp only [eU] at h ⊢
    rw [Option.bind_eq_some_iff] at h
    obtain ⟨o1, h1, h2⟩ := h
    simp only [aGv] at h1 ⊢
    rw [tT (fun s o h => ih blk s o h) n n' hn s o1 h1, Option.bind_some]
    exact h2
  | exit id => intro blk s o h; exact h
  | ret => intro blk s o h; exact h
  | _ => intro blk s o h; simp [eU] at h
theorem aC7 {T : (aLb m)} {H : FuncId → gB} : ∀ (n m : Nat), n ≤ m → DLe (aBh P T H n) (aBh P T H m)
  | 0, _, _ => by intro f a b r h; simp [aBh] at h
  | n + 1, 0, h => by omega
  | n + 1, m + 1, hm => by
    intro f a b r h
    simp only [aBh] at h ⊢
    cases ht : T f with
    | some t => rw [ht] at h; exact h
    | none =>
      rw [ht] at h
      simp only at h ⊢
      unfold aOM at h ⊢
      cases hfn : P.funcs[f]? with
      | none => rw [hfn] at h; simp at h
      | some fn =>
        rw [hfn] at h
        simp only at h ⊢
        cases hc : fn.body with
        | none => rw [hc] at h; simp at h
        | some c =>
          rw [hc] at h
          simp only at h ⊢
          rw [iU, Option.bind_eq_some_iff] at h ⊢
          obtain ⟨o, ho, hk⟩ := h
          exact ⟨o, aRa (aC7 n m (by omega)) (by omega) c 0 _ o ho, hk⟩
noncomputable def den (P : Program) (T : (aLb m)) (H : FuncId → gB) : (bK m) := fun f a b =>
  open Classical in if h : ∃ n r, aBh P T H n f a b = some r then some (Classical.choose (Classical.choose_spec h)) else none
theorem aLS {T : (aLb m)} {H : FuncId → gB} {f : FuncId} {a : List (SV m)} {b : List (List (SV m))} {r : (SV m) × List (List (SV m))} : den P T H f a b = some r ↔ ∃ n, aBh P T H n f a b = some r := by
  unfold den
  constructor
  · intro h
    split at h
    · rename_i hx
      simp only [Option.some.injEq] at h
      subst h
      exact ⟨_, Classical.choose_spec (Classical.choose_spec hx)⟩
    · simp at h
  · rintro ⟨n, hn⟩
    have hx : ∃ n r, aBh P T H n f a b = some r := ⟨n, r, hn⟩
    rw [dif_pos hx]
    have h1 := Classical.choose_spec (Classical.choose_spec hx)
    have h2 := aC7 _ (max n (Classical.choose hx)) (Nat.le_max_right _ _) _ _ _ _ h1
    have h3 := aC7 n (max n (Classical.choose hx)) (Nat.le_max_left _ _) _ _ _ _ hn
    rw [h2] at h3
    exact h3
theorem aJ5 {N : Env} (hP : P.follows .mixedOrders = true) (hG : P.funcs.all (fun fn => !(fn.name == "runtime.NumGoroutine")) = true) {T : (aLb m)} (hT : aMn P N T) (H : FuncId → gB) : lS P N (den P T H) := by
  intro f a b r h
  obtain ⟨n, hn⟩ := aLS.1 h
  exact aMo hP hG hT H n f a b r hn
theorem aUU {T : (aLb m)} {H : FuncId → gB} {f : FuncId} {a : List (SV m)} {b : List (List (SV m))} {r : (SV m) × List (List (SV m))} (hT : T f = none) (h : aOM P (den P T H) H bA f a b = some r) : den P T H f a b = some r := by
  refine aLS.2 ?_
  unfold aOM at h
  split at h
  · rename_i fn hfn
    split at h
    · rename_i c hc
      rw [iU, Option.bind_eq_some_iff] at h
      obtain ⟨o, ho, hk⟩ := h
      obtain ⟨n, hn⟩ := aNM (Dn := aBh P T H) ⟨fun n m h => aC7 n m h, fun f a b r h => aLS.1 h⟩ c 0 _ o ho
      refine ⟨n + 1, ?_⟩
      simp only [aBh, hT]
      unfold aOM
      rw [hfn]
      simp only
      rw [hc]
      simp only
      rw [iU, hn n (Nat.le_refl _)]
      exact hk
    · simp at h
  · simp at h
theorem aLT {T : (aLb m)} {H : FuncId → gB} {f : FuncId} {t : List (SV m) → List (List (SV m)) → Option ((SV m) × List (List (SV m)))} {a : List (SV m)} {b : List (List (SV m))} {r : (SV m) × List (List (SV m))} (hT : T f = some t) (h : t a b = some r) : den P T H f a b = some r :=
  aLS.2 ⟨1, by simp only [aBh, hT]; exact h⟩
end Go.Vs
end
