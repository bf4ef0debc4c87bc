/- What the program's functions compute, read off their text by the shadow runner (VsClone, VsNames, VsLst, VsFig); no condition. -/
import Derived.Lib.LazyBuf
import Derived.Laws.Strings
import Derived.Sort.Walk0
import Derived.Lib.ParseIntB
import Derived.Test.YtphfegkplihmhaaGreatDoorVB4
section
set_option linter.unusedVariables false
set_option linter.unusedSimpArgs false
namespace Go.Vs
open Go Go.RowKit
variable {m : Bool} {P : Program} {N : Env}
def aNX (t : TypeId) : Code :=
  (Code.region 0 #[{ dst := some 2, op := Op.assign (Operand.const (Value.slice none 0 0)), type := t, pos := "slices.go:355", after := #[], guard := none }] false).seq
    (((Code.region 1 #[{ dst := some 3, op := Op.move (Operand.tmp 0), type := t, pos := "slices.go:357", after := #[], guard := none },
        { dst := some 4, op := Op.binOp BinOp.eql t (Operand.tmp 3) (Operand.const (Value.slice none 0 0)) t, type := 4, pos := "slices.go:357", after := #[{ on := 0, ground := Ground.data }], guard := none }] false).seq
      (Code.cond (Operand.tmp 4) ((Code.region 2 #[{ dst := some 2, op := Op.assign (Operand.const (Value.slice none 0 0)), type := t, pos := "slices.go:358", after := #[], guard := none }] false).seq Code.ret) Code.skip)).seq
      ((Code.region 3 #[{ dst := some 5, op := Op.buildSlice t 0 #[], type := t, pos := "slices.go:362", after := #[], guard := none },
        { dst := some 6, op := Op.move (Operand.tmp 0), type := t, pos := "slices.go:362", after := #[], guard := none },
        { dst := some 7, op := Op.call { callee := Callee.builtin Builtin.append, args := #[Operand.tmp 5, Operand.tmp 6], argTypes := #[t, t] }, type := t, pos := "slices.go:362", after := #[{ on := 0, ground := Ground.data }, { on := 1, ground := Ground.data }], guard := none },
        { dst := some 2, op := Op.assign (Operand.tmp 7), type := t, pos := "slices.go:362", after := #[{ on := 2, ground := Ground.data }, { on := 2, ground := Ground.chain }, { on := 0, ground := Ground.phase }, { on := 1, ground := Ground.phase }, { on := 2, ground := Ground.phase }], guard := none }] false).seq Code.ret))
theorem aEt {ops : Array Oper} {Q : Exit → Act → World → Prop} {i : Nat} {rest : List Nat} {a : Act} {w w' : World} {o : Oper} {z : Value} (hops : ops[i]? = some o) (hg : o.guard = none) (hrun : (execOp a.eval o).run P w = .ok (.value z) w')
    (hk : wpOps P ops Q rest (a.put o.dst z) w') : wpOps P ops Q (i :: rest) a w := by
  unfold wpOps
  rw [hops]
  simp only
  rw [if_pos (by simp [Region.wanted, hg])]
  refine .inl ?_
  unfold Oper.wp
  rw [hrun]
  exact hk
def aJE (P : Program) (e : TypeId) (i : TypeInfo) (q : Bool) : List (SV m) → List (List (SV m)) → Option (SV m × List (List (SV m)))
  | [.leaf (.sl _ es)], [] => if es.length * i.bytes ≤ aK ∧ sized i.size es = true then some (SV.mkO q (some e) es, []) else none
  | _, _ => none
theorem aT6 (q : Bool) (eo : Option TypeId) (es : List (List (aC m))) : (SV.mkO q eo es).backOk 0 = true := by cases q <;> rfl
theorem aQj {f : FuncId} {fn : Func} {t e : TypeId} {i : TypeInfo} {z : Value} (hfn : P.funcs[f]? = some fn) (hb : fn.body = some (aNX t)) (hnt : fn.ntmps = 8) (hres : fn.results = #[.tmp 2]) (hnm : (fn.name == "runtime.NumGoroutine") = false)
    {d0 : TypeDesc} (hue : P.underlying e = some d0) (hu : P.underlying t = some (.slice e)) (hi : P.info? e = some i) (hz : i.zero = some z) (hzs : pK P e = true) (h0 : 0 < i.size) (hby : 0 < i.bytes) (q : Bool) :
    ∀ (args : List (SV m)) (boxes : List (List (SV m))) (r : SV m × List (List (SV m))), aJE P e i q args boxes = some r → args.all SV.handed = true → (∀ c ∈ boxes, ∀ x ∈ c, x.flat = true) →
      r.2.length = boxes.length ∧ r.1.backOk boxes.length = true ∧ (∀ cs ∈ r.2, ∀ c ∈ cs, c.flat = true) ∧ (∃ fn, P.funcs[f]? = some fn ∧ (fn.name == "runtime.NumGoroutine") = false ∧ fn.body.isNone = false) ∧
      ∀ (w : World) (F : Fr) (Ow : Own) (bm : Nat → Nat) (vals : Array Value), Inv P { tmps := args, boxes := boxes.map some } vals w F N Ow bm →
        Calls P f vals w fun e w' => ∃ v F' Ow', e = .returned v ∧ Inv P { tmps := [r.1], boxes := r.2.map some } #[v] w' F' N Ow' bm ∧ Far N w F Ow w' F' Ow' := by
  intro args boxes r hr hh hf
  unfold aJE at hr
  split at hr
  · rename_i c es
    split at hr
    · rename_i hcnd
      obtain ⟨hmax, hsz⟩ := hcnd
      simp only [Option.some.injEq] at hr
      subst hr
      refine ⟨rfl, aT6 q _ _, fun cs hcs => by simp at hcs, ⟨fn, hfn, hnm, by rw [hb]; rfl⟩, fun w F Ow bm vals h => ?_⟩
      have hlen := h.len
      have hs0 := h.slot 0
      have hL : eB w F N (.sl c es) (vals.getD 0 undef) := by simpa [aR, dF] using hs0
      obtain ⟨v, rfl⟩ : ∃ v, vals = #[v] := by
        have hl1 : vals.size = 1 := hlen.symm
        refine ⟨vals[0], ?_⟩
        apply Array.ext
        · simp [hl1]
        · intro j h1 h2
          have : j = 0 := by omega
          subst this
          simp
      have hL : eB w F N (.sl c es) v := by simpa using hL
      obtain ⟨A, cap, z', vs, rfl, hcap, hez, hvl, hcell, hrr⟩ := aFT hL
      have hno : ∀ (t : Nat) (s : St m), s.tmps.length ≤ t → ¬ s.holds (.tmp t) := fun t s ht => by
        show ¬ jK (s.tmps.getD t .any) = true
        rw [List.getD_eq_getElem?_getD, List.getElem?_eq_none ht]
        simp [jK]
      have done : ∀ (a : Act) (w' : World) (v' : Value) (F' : Fr) (Ow' : Own), a.defers = [] → a.tmps.getD 2 undef = v' → lO P w' F' N Ow' (.tmp 0) q (some e) es v' → Low N w' F' → (∀ g, w'.heap.size ≤ g → F' g = 0 ∧ Ow' g = none) → (∀ g, N.Z g = true → Ow' g = none ∧ ∃ cur e, w'.heap[g]? = some (.cells cur e (0, 0))) → Far N w F Ow w' F' Ow' →
          bodyPost P fn (fun e_1 w' => ∃ v F' Ow', e_1 = .returned v ∧ Inv P { tmps := [SV.mkO q (some e) es], boxes := ([] : List (List (SV m))).map some } #[v] w' F' N Ow' bm ∧ Far N w F Ow w' F' Ow') .ret a w' := by
        intro a w' v' F' Ow' hd hv hO hlow hnew hzow hfar
        refine ⟨hd, v', ?_, v', F', Ow', rfl, ⟨rfl, fun t => ?_, fun b cs hc => by simp [aW] at hc, hlow, hnew, fun b cs hc => by simp [aW] at hc, hzow⟩, hfar⟩
        · rw [aMb, hres]
          simp [zZ, hv]
        · cases t with
          | zero => cases q <;> exact hO
          | succ t => simp only [List.getD_cons_succ, List.getD_nil]; exact aR.any
      refine calls_of_wp hfn hb ?_
      rw [hnt]
      unfold aNX
      refine wp_seq (wp_region ?_)
      refine aEt (z := .slice none 0 0) (w' := w) rfl rfl (by simp [Act.eval, Act.put, execOp]) ?_
      refine wp_seq (wp_seq (wp_region ?_))
      refine aEt (z := .slice A es.length cap) (w' := w) rfl rfl (by simp [Act.eval, Act.put, execOp]) ?_
      refine aEt (z := .bool A.isNone) (w' := w) rfl rfl ?_ ?_
      · have := run_eql_slice_nil (P := P) w t e A es.length cap hu
        simp [Act.eval, Act.put, execOp, eqGuard, this]
      cases A with
      | none =>
        have hes : es = [] := by
          rcases Nat.eq_zero_or_pos es.length with h' | h'
          · exact List.eq_nil_of_length_eq_zero h'
          · obtain ⟨_, _, h'', _⟩ := hcell h'; simp at h''
        subst hes
        refine wp_cond_true (by simp [Act.eval, Act.put]) (wp_seq (wp_region ?_))
        refine aEt (z := .slice none 0 0) (w' := w) rfl rfl (by simp [Act.eval, Act.put, execOp]) ?_
        refine wp_ret ?_
        exact done _ w (.slice none 0 0) F (fun g => none) rfl (by simp [Act.put]) (.inl ⟨rfl, rfl⟩) h.low (fun g hg => ⟨(h.new g hg).1, rfl⟩) (fun g hg => ⟨rfl, (h.zow g hg).2⟩) ⟨rfl, rfl, rfl, Nat.le_refl _, eN.refl _ _, fun g _ _ => ⟨fun _ => rfl, rfl, rfl⟩⟩
      | some ad =>
        refine wp_cond_false (by simp [Act.eval, Act.put]) (wp_skip ?_)
        refine wp_seq (wp_region ?_)
        obtain ⟨z1, w1, e1, i1, es1, hrun1, hv1, hi1, hp1, G1⟩ := aDw (m := m) (P := P) (N := N) (F := F) (w := w) (t := t) (n := 0) (ps := []) (qs := #[]) (v := .own (some e) []) (h.new _ (Nat.le_refl _)).1 (by
          have hel : oY P t = some e := by unfold oY; rw [hu]
          have hdd : ∃ d, P.underlying e = some d := ⟨d0, hue⟩
          obtain ⟨d, hd⟩ := hdd
          have hsT : dS P e = some i.size := by unfold dS; rw [hd, hi]; rfl
          simp [tN, hel, hsT, hzs, aA, h0, aJn]) .nil
        obtain ⟨rfl, rfl⟩ : e = e1 ∧ es1 = [] := by cases hv1; exact ⟨rfl, rfl⟩
        rw [hi] at hi1
        cases hi1
        obtain ⟨F1, O1, k1, k2, k3⟩ := h.grown (loc := .blk 0) (to := .tmp 1) hi h0 G1 (.inr rfl) h.low.le q (fun _ => (h.new _ (Nat.le_refl _)).1) (aFP (Nat.le_refl _))
        refine aEt (z := z1) (w' := w1) rfl rfl (by simp [Act.eval, Act.put, execOp, hrun1]) ?_
        refine aEt (z := .slice (some ad) es.length cap) (w' := w1) rfl rfl (by simp [Act.eval, Act.put, execOp]) ?_
        have hL1 : eB w1 F1 N (.sl c es) (.slice (some ad) es.length cap) := hL.keeps k2.keeps
        obtain ⟨g1, cap1, cur1, hz1⟩ : ∃ g cap1 cur, z1 = .slice (some ⟨g, 0, none⟩) 0 cap1 ∧ True := by
          obtain ⟨cap', cur', vals', hv', _⟩ := G1.row
          exact ⟨_, cap', cur', by simpa using hv', trivial⟩
        have hRow : aR2 w1 F1 N es (.slice (some ad) es.length cap) := eB.see hL1
        obtain ⟨v2, w2, hrun2, hcase⟩ := aBH (ty := t) (fun g hg => (k1.new g hg).1) k1.low.le k3 (by rfl) hRow hu hi hzs h0 hby (aFV hsz) (by simpa using hmax)
        refine aEt (z := v2) (w' := w2) rfl rfl (by simp [Act.eval, Act.put, execOp, resolve, invoke, builtin, hrun2]) ?_
        refine aEt (z := v2) (w' := w2) rfl rfl (by simp [Act.eval, Act.put, execOp]) ?_
        refine wp_ret ?_
        rcases hcase with ⟨rfl, hnil, rfl⟩ | ⟨g, G2, hN, hg, hqF, hbs⟩
        · have hnil' : es = [] := by simpa using hnil
          subst hnil'
          exact done _ w2 (.slice none 0 0) F1 (fun g => none) rfl (by simp [Act.put]) (.inl ⟨rfl, rfl⟩) k1.low (fun g hg => ⟨(k1.new g hg).1, rfl⟩) (fun g hg => ⟨rfl, (k1.zow g hg).2⟩) ⟨k2.os, k2.tape, k2.output, k2.size, k2.keeps, fun g hg ho => ⟨(k2.old g hg ho).1, (k2.old g hg ho).2.1, rfl⟩⟩
        · obtain ⟨F2, O2, q1, q2, q3⟩ := k1.grown (loc := .tmp 1) (to := .tmp 0) hi h0 G2 (hg.imp (fun x => ⟨x.1, hno 1 _ (by simp)⟩) id) hN q hqF hbs
          exact done _ w2 v2 F2 O2 rfl (by simp [Act.put]) (by simpa using q3) q1.low q1.new q1.zow (k2.trans q2)
    · simp at hr
  · simp at hr
end Go.Vs
end
section
set_option linter.unusedVariables false
namespace Go.Vs
def key (e : El) : List UInt8 := (cR e 0).toList
def aVB (l : List El) : Prop := l.Pairwise fun a b => key a ≤ key b
def aUX (out : List El) (x : El) : List El := if (out.getLast?.map key) = some (key x) then out else out ++ [x]
def fin (xs ys out : List El) : List El := match xs, ys with
  | [], [] => out
  | x :: xs, [] => fin xs [] (aUX out x)
  | [], y :: ys => fin [] ys (aUX out y)
  | x :: xs, y :: ys => if key x ≤ key y then fin xs (y :: ys) (aUX out x) else fin (x :: xs) ys (aUX out y)
termination_by xs.length + ys.length
structure aWq (xs ys out r : List El) : Prop where
  up : aVB r
  mem : ∀ s, (∃ e ∈ r, key e = s) ↔ (∃ e ∈ out, key e = s) ∨ (∃ e ∈ xs, key e = s) ∨ ∃ e ∈ ys, key e = s
  len : r.length ≤ out.length + xs.length + ys.length
  sub : ∀ e ∈ r, e ∈ out ∨ e ∈ xs ∨ e ∈ ys
end Go.Vs
end
section
set_option linter.unusedVariables false
namespace Go.Vs
abbrev nul : ByteArray := ByteArray.mk #[]
def aSK : aC false → Bool | .sl _ _ => false | .nl _ => false | _ => true
theorem aTl {φ ψ : Fl false → Fl true} {l : aC false} (h : aSK l = true) : reF φ l = reF ψ l := by cases l <;> first | rfl | simp [aSK] at h
theorem aTO {φ ψ : Fl false → Fl true} {l : List El} (h : ∀ e ∈ l, e.all aSK = true) : reE φ l = reE ψ l := by
  rw [aBg, aBg]
  refine List.map_congr_left fun e he => ?_
  rw [xE, xE]
  exact List.map_congr_left fun x hx => aTl (List.all_eq_true.1 (h e he) x hx)
def fI (p : El → Bool) : Int → List El → Int
  | _, [] => -1
  | i, e :: es => if p e = true then i else fI p (i + 1) es
theorem aOF (p : El → Bool) : ∀ (es : List El) (i : Int), 0 ≤ i → fI p i es = -1 ∨ (i ≤ fI p i es ∧ fI p i es < i + es.length)
  | [], i, h => .inl rfl
  | e :: es, i, h => by
    unfold fI
    split
    · right; simp; omega
    · rcases aOF p es (i + 1) (by omega) with h1 | h1
      · exact .inl h1
      · right; simp only [List.length_cons]; push_cast; omega
theorem aR1 (p : El → Bool) : ∀ (es : List El) (i j : Nat), fI p (i : Int) es = (j : Int) → ∃ h : j - i < es.length, i ≤ j ∧ p es[j - i] = true
  | [], i, j, h => by simp [fI] at h
  | e :: es, i, j, h => by
    unfold fI at h
    split at h
    · rename_i hp
      have : i = j := by omega
      subst this
      refine ⟨by simp, Nat.le_refl _, ?_⟩
      simp only [Nat.sub_self, List.getElem_cons_zero]; exact hp
    · obtain ⟨h1, h2, h3⟩ := aR1 p es (i + 1) j (by push_cast; exact h)
      have hj : j - i = (j - (i + 1)) + 1 := by omega
      refine ⟨by simp; omega, by omega, ?_⟩
      simp only [hj, List.getElem_cons_succ]
      exact h3
theorem rX {p : El → Bool} {es : List El} (h : ¬ fI p 0 es < 0) : ∃ (j : Nat) (hj : j < es.length), fI p 0 es = (j : Int) ∧ p es[j] = true := by
  rcases aOF p es 0 (by omega) with h1 | ⟨h1, h2⟩
  · omega
  · obtain ⟨j, hj⟩ : ∃ j : Nat, fI p 0 es = (j : Int) := ⟨(fI p 0 es).toNat, by omega⟩
    obtain ⟨a, _, b⟩ := aR1 p es 0 j hj
    exact ⟨j, by simpa using a, hj, by simpa using b⟩
theorem uI (p : El → Bool) : ∀ (es : List El) (i : Int), 0 ≤ i → decide (fI p i es ≥ 0) = es.any p
  | [], i, h => by simp [fI]
  | e :: es, i, h => by
    unfold fI
    cases hp : p e with
    | true => simp [hp]; omega
    | false => simpa [hp] using uI p es (i + 1) (by omega)
abbrev at0 (s : ByteArray) (e : El) : Bool := (cR e 0).toList == s.toList
abbrev at3 (s : ByteArray) (e : El) : Bool := (cR e 3).toList == s.toList
theorem aUP (a b : List UInt8) : (a == b) = (b == a) := by rw [Bool.eq_iff_iff, beq_iff_eq, beq_iff_eq]; exact eq_comm
section
variable {β : Type} {es : List El}
theorem aSi {p : El → Bool} {A : Int → Option β} {yes : Int → Option β} {no : Option β} (hend : A es.length = no)
    (hstep : ∀ (i : Nat) (hi : i < es.length), A i = aB (p es[i]) (yes i) (A ((i + 1 : Nat) : Int))) :
    ∀ i : Nat, i ≤ es.length → A i = if fI p i (es.drop i) < 0 then no else yes (fI p i (es.drop i)) := by
  refine cF ?_ ?_
  · rw [hend]; simp [fI]
  · intro i hi ih
    rw [hstep i hi, gS hi, ih, lR, show fI p (i : Int) (es[i] :: es.drop (i + 1)) = if p es[i] = true then (i : Int) else fI p (i + 1) (es.drop (i + 1)) from rfl]
    by_cases hp : p es[i] = true
    · rw [if_pos hp, if_pos hp, if_neg (by omega)]
    · rw [if_neg hp, if_neg hp]; push_cast; rfl
theorem wK {p : El → Bool} {A : Int → Option β} {yes : Int → Option β} {no : Option β} (hend : A es.length = no)
    (hstep : ∀ (i : Nat) (hi : i < es.length), A i = aB (p es[i]) (yes i) (A ((i + 1 : Nat) : Int))) :
    A 0 = if fI p 0 es < 0 then no else yes (fI p 0 es) := by
  have := aSi hend hstep 0 (Nat.zero_le _)
  simpa using this
theorem pI {p : El → Bool} {A : Int → Ret false} {bs : List (List (SV false))} (hend : A es.length = some (aI (-1), bs))
    (hstep : ∀ (i : Nat) (hi : i < es.length), A i = aB (p es[i]) (some (aI i, bs)) (A ((i + 1 : Nat) : Int))) : A 0 = some (aI (fI p 0 es), bs) := by
  rw [wK (yes := fun i => some (aI i, bs)) hend hstep]
  split
  · rename_i h
    rcases aOF p es 0 (by omega) with h1 | h1
    · rw [h1]
    · omega
  · rfl
theorem aT5 {p : El → Bool} {A : Int → Ret false} {bs : List (List (SV false))} (hend : A es.length = some (aH false, bs))
    (hstep : ∀ (i : Nat) (hi : i < es.length), A i = aB (p es[i]) (some (aH true, bs)) (A ((i + 1 : Nat) : Int))) : A 0 = some (aH (es.any p), bs) := by
  rw [show A 0 = _ from (by
    have h := wK (yes := fun _ => some (aH true, bs)) hend hstep
    exact h), ← uI p es 0 (by omega)]
  by_cases hc : fI p 0 es < 0
  · rw [if_pos hc]; simp; omega
  · rw [if_neg hc]; simp; omega
theorem aNg {p : El → Bool} {A : Int → Option β} {yes no : Option β} (hend : A es.length = no)
    (hstep : ∀ (i : Nat) (hi : i < es.length), A i = aB (p es[i]) yes (A ((i + 1 : Nat) : Int))) :
    A 0 = if es.any p = true then yes else no := by
  have h := wK (yes := fun _ => yes) hend hstep
  rw [h, ← uI p es 0 (by omega)]
  by_cases hc : fI p 0 es < 0
  · rw [if_pos hc, if_neg (by simp; omega)]
  · rw [if_neg hc, if_pos (by simp; omega)]
def nW (g : Nat → El → List El) : Nat → List El → List El
  | _, [] => []
  | i, e :: r => g i e ++ nW g (i + 1) r
theorem aFs (g : El → List El) : ∀ (l : List El) (i : Nat), nW (fun _ => g) i l = l.flatMap g
  | [], _ => rfl
  | e :: r, i => by rw [nW, aFs g r, List.flatMap_cons]
theorem zY {g : Nat → El → List El} {c : Nat} : ∀ (l : List El) (i : Nat), (∀ (j : Nat) (hj : j < l.length), (g (i + j) l[j]).length ≤ c) → (nW g i l).length ≤ l.length * c
  | [], _, _ => by simp [nW]
  | e :: r, i, h => by
    have h0 := h 0 (by simp)
    have h1 := zY (g := g) (c := c) r (i + 1) (fun j hj => by have := h (j + 1) (by simpa using hj); simpa [Nat.add_assoc, Nat.add_comm 1 j] using this)
    simp at h0
    rw [nW, List.length_append, List.length_cons, Nat.add_mul]; omega
theorem aKn {g : Nat → El → List El} {x : El} : ∀ (l : List El) (i : Nat), x ∈ nW g i l → ∃ (j : Nat) (hj : j < l.length), x ∈ g (i + j) l[j]
  | [], _, h => by simp [nW] at h
  | e :: r, i, h => by
    rw [nW] at h
    rcases List.mem_append.1 h with h | h
    · exact ⟨0, by simp, by simpa using h⟩
    · obtain ⟨j, hj, hx⟩ := aKn r (i + 1) h
      exact ⟨j + 1, by simpa using hj, by simpa [Nat.add_assoc, Nat.add_comm 1 j] using hx⟩
theorem aTq {g : Nat → El → List El} {A : List El → Int → Option β} {fin : List El → Option β} {c N : Nat} (hg : ∀ (j : Nat) (hj : j < es.length), (g j es[j]).length ≤ c)
    (hend : ∀ out, out.length ≤ N → A out es.length = fin out)
    (hstep : ∀ (i : Nat) (hi : i < es.length) (out : List El), out.length + c ≤ N → A out i = A (out ++ g i es[i]) ((i + 1 : Nat) : Int)) :
    ∀ i : Nat, i ≤ es.length → ∀ out : List El, out.length + (es.length - i) * c ≤ N → A out i = fin (out ++ nW g i (es.drop i)) := by
  refine cF ?_ ?_
  · intro out ho; rw [hend out (by simpa using ho)]; simp [nW]
  · intro i hi ih out ho
    have e1 : (es.length - i) * c = (es.length - (i + 1)) * c + c := by rw [show es.length - i = (es.length - (i + 1)) + 1 by omega, Nat.add_mul, Nat.one_mul]
    rw [hstep i hi out (by omega), ih _ (by have := hg i hi; rw [List.length_append]; omega), gS hi, nW, List.append_assoc]
theorem aKu {g : Nat → El → List El} {A : List El → Int → Option β} {fin : List El → Option β} {c N : Nat} (hg : ∀ (j : Nat) (hj : j < es.length), (g j es[j]).length ≤ c)
    (hend : ∀ out, out.length ≤ N → A out es.length = fin out)
    (hstep : ∀ (i : Nat) (hi : i < es.length) (out : List El), out.length + c ≤ N → A out i = A (out ++ g i es[i]) ((i + 1 : Nat) : Int))
    {out : List El} (ho : out.length + es.length * c ≤ N) : A out 0 = fin (out ++ nW g 0 es) := by
  have := aTq hg hend hstep 0 (Nat.zero_le _) out (by simpa using ho)
  simpa using this
theorem uA {g : Nat → El → List El} {A : List El → Int → Option β} {fin : List El → Option β} {c N : Nat} (hg : ∀ (j : Nat) (hj : j < es.length), (g j es[j]).length ≤ c)
    (hend : ∀ out, out.length ≤ N → A out es.length = fin out)
    (hstep : ∀ (i : Nat) (hi : i < es.length) (out : List El), out.length + c ≤ N → A out i = A (out ++ g i es[i]) ((i + 1 : Nat) : Int))
    (ho : es.length * c ≤ N) : A [] 0 = fin (nW g 0 es) :=
  aKu hg hend hstep (out := []) (by simpa using ho)
end
def ifP (q : Bool) (x : El) : List El := if q = true then [x] else []
theorem lZ (q : Bool) (x : El) : (ifP q x).length ≤ 1 := by unfold ifP; split <;> simp
theorem aRF {q : Bool} {x y : El} (h : y ∈ ifP q x) : q = true ∧ y = x := by unfold ifP at h; split at h <;> simp_all
@[simp] theorem rM (x : El) : ifP true x = [x] := rfl
@[simp] theorem pL (x : El) : ifP false x = [] := rfl
theorem aOY {n k z : Nat} (h : n + k ≤ 1000000000000) (hz : z ≤ 100) : decide ((n + k) * z ≤ aK) = true := by
  have hb : aK = 140737488355328 := rfl
  rw [decide_eq_true_eq]
  calc (n + k) * z ≤ 1000000000000 * 100 := Nat.mul_le_mul h hz
    _ ≤ aK := by rw [hb]; decide
end Go.Vs
end
section
set_option linter.unusedVariables false
namespace Go.Vs
def tW (b : UInt8) : Bool := decide (48 ≤ b.toNat) && decide (b.toNat ≤ 57)
def qL : List UInt8 → List UInt8
  | [] => []
  | c :: r => if c.toNat = 45 then r else c :: r
def neg (l : List UInt8) : Bool := match l with | [] => false | c :: _ => decide (c.toNat = 45)
def aAU (n : Nat) (c : UInt8) : Nat := n * 10 + (c.toNat - 48)
def rG (a : Nat) (l : List UInt8) : Nat := l.foldl aAU a
theorem wL (a : Nat) (c : UInt8) (r : List UInt8) : rG a (c :: r) = rG (aAU a c) r := by
  unfold rG
  rw [List.foldl_cons]
theorem aMx (a : Nat) : rG a [] = a := rfl
def aDX (l : List UInt8) : Bool := decide (l.length ≤ 40) && (decide (qL l ≠ []) && ((qL l).all tW && (decide ((qL l).length = 1) || decide ((qL l).head?.map (·.toNat) ≠ some 48))))
theorem aU3 (l : List UInt8) : ∀ a : Nat, a ≤ rG a l := by
  induction l with
  | nil => intro a; exact Nat.le_refl _
  | cons c r ih =>
    intro a
    rw [wL]
    have h : a ≤ aAU a c := by unfold aAU; omega
    exact Nat.le_trans h (ih _)
theorem aS4 (l : List UInt8) : ∀ a b : Nat, a ≤ b → rG a l ≤ rG b l := by
  induction l with
  | nil => intro a b h; exact h
  | cons c r ih =>
    intro a b h
    rw [wL, wL]
    have h : aAU a c ≤ aAU b c := by unfold aAU; omega
    exact ih _ _ h
theorem aUo (l : List UInt8) : ∀ a : Nat, a * 10 ^ l.length ≤ rG a l := by
  induction l with
  | nil => intro a; simp [aMx]
  | cons c r ih =>
    intro a
    rw [List.length_cons, Nat.pow_succ, wL]
    have h1 := ih (a * 10)
    have h : a * 10 ≤ aAU a c := by unfold aAU; omega
    have h2 := aS4 r _ _ h
    have h3 : a * (10 ^ r.length * 10) = a * 10 * 10 ^ r.length := by rw [Nat.mul_comm (10 ^ r.length) 10, Nat.mul_assoc]
    rw [h3]
    exact Nat.le_trans h1 h2
theorem aTs (l : List UInt8) : ∀ a : Nat, l.all tW = true → a ≤ 4294967295 → Lib.parseUintM 4294967295 a l = if rG a l ≤ 4294967295 then .ok (rG a l) else .range := by
  induction l with
  | nil => intro a _ h; rw [aMx, if_pos h, Lib.parseUintM]
  | cons c r ih =>
    intro a hl h
    rw [List.all_cons, Bool.and_eq_true] at hl
    have hc : 48 ≤ c.toNat ∧ c.toNat ≤ 57 := by simpa [tW] using hl.1
    rw [Lib.parseUintM, if_pos hc, if_neg (by omega), wL, show a * 10 + (c.toNat - 48) = aAU a c from rfl]
    by_cases hb : 4294967295 < aAU a c
    · rw [if_pos hb, if_neg]
      have := aU3 r (aAU a c)
      omega
    · rw [if_neg hb, ih _ hl.2 (by omega)]
def aRr (l : List UInt8) : Bool := if neg l = true then decide (rG 0 (qL l) ≤ 2147483648) else decide (rG 0 (qL l) ≤ 2147483647)
def okB (l : List UInt8) : Bool := match Lib.parseIntB 32 l with | .ok _ => true | _ => false
theorem aUC {l : List UInt8} (h : aDX l = true) : okB l = aRr l := by
  unfold okB
  unfold aDX at h
  simp only [Bool.and_eq_true, decide_eq_true_eq] at h
  obtain ⟨_, hne, hall, _⟩ := h
  cases l with
  | nil => simp [qL] at hne
  | cons c r =>
    by_cases hc : c.toNat = 45
    · have hd : qL (c :: r) = r := by simp [qL, hc]
      rw [hd] at hne hall
      have hb : Lib.parseUintB 32 r = if rG 0 r ≤ 4294967295 then .ok (rG 0 r) else .range := by
        unfold Lib.parseUintB; rw [if_neg hne]; exact aTs r 0 hall (by omega)
      unfold Lib.parseIntB aRr neg
      simp only [hc, or_true, if_true, hb, hd, decide_true]
      by_cases hv : rG 0 r ≤ 4294967295
      · rw [if_pos hv]
        by_cases h2 : rG 0 r ≤ 2147483648
        · have : ¬ (2147483648 < rG 0 r) := by omega
          simp [h2, this]
        · have : 2147483648 < rG 0 r := by omega
          simp [h2, this]
      · rw [if_neg hv]
        have : ¬ rG 0 r ≤ 2147483648 := by omega
        simp [this]
    · have hd : qL (c :: r) = c :: r := by simp [qL, hc]
      rw [hd] at hne hall
      have h43 : ¬ (c.toNat = 43 ∨ c.toNat = 45) := by
        simp only [List.all_cons, Bool.and_eq_true, tW, decide_eq_true_eq] at hall
        omega
      have hb : Lib.parseUintB 32 (c :: r) = if rG 0 (c :: r) ≤ 4294967295 then .ok (rG 0 (c :: r)) else .range := by
        unfold Lib.parseUintB; rw [if_neg hne]; exact aTs (c :: r) 0 hall (by omega)
      unfold Lib.parseIntB aRr neg
      simp only [if_neg h43, hb, hd]
      simp only [hc, decide_false, Bool.false_eq_true, if_false]
      by_cases hv : rG 0 (c :: r) ≤ 4294967295
      · rw [if_pos hv]
        by_cases h2 : rG 0 (c :: r) ≤ 2147483647
        · have : ¬ (2147483648 ≤ rG 0 (c :: r)) := by omega
          simp [h2, this]
        · have : 2147483648 ≤ rG 0 (c :: r) := by omega
          simp [h2, this]
      · rw [if_neg hv]
        have : ¬ rG 0 (c :: r) ≤ 2147483647 := by omega
        simp [this]
theorem aTe {l : List UInt8} (h : aDX l = true) (hl : 11 < l.length) : aRr l = false := by
  unfold aDX at h
  simp only [Bool.and_eq_true, Bool.or_eq_true, decide_eq_true_eq] at h
  obtain ⟨_, hne, hall, hz⟩ := h
  have hlen : 11 ≤ (qL l).length := by
    cases l with
    | nil => simp at hl
    | cons c r =>
      rw [List.length_cons] at hl
      simp only [qL]
      split
      · omega
      · rw [List.length_cons]; omega
  cases hd : qL l with
  | nil => exact absurd hd hne
  | cons c r =>
    rw [hd] at hall hz hlen
    simp only [List.all_cons, Bool.and_eq_true, tW, decide_eq_true_eq] at hall
    have hc : 49 ≤ c.toNat := by
      rcases hz with hz | hz
      · omega
      · simp at hz; omega
    rw [List.length_cons] at hlen
    have h1 := aUo r (aAU 0 c)
    have h2 : 10 ^ 10 ≤ 10 ^ r.length := Nat.pow_le_pow_right (by omega) (by omega)
    have h0 : 1 ≤ aAU 0 c := by unfold aAU; omega
    have h3 : 1 * 10 ^ r.length ≤ aAU 0 c * 10 ^ r.length := Nat.mul_le_mul_right _ h0
    have h4 : 10000000000 ≤ rG 0 (c :: r) := by
      rw [wL]
      have : (10 : Nat) ^ 10 = 10000000000 := by decide
      omega
    unfold aRr
    rw [hd]
    split <;> simp <;> omega
theorem aTE {β : Type} {l : List UInt8} {p : UInt8 → Bool} {A : Int → Option β} {yes no : Option β} (hend : A l.length = yes)
    (hstep : ∀ (i : Nat) (hi : i < l.length), A i = aB (!p l[i]) no (A ((i + 1 : Nat) : Int))) : A 0 = if l.all p = true then yes else no := by
  have key : ∀ i : Nat, i ≤ l.length → A i = if (l.drop i).all p = true then yes else no := by
    refine cF ?_ ?_
    · rw [hend]; simp
    · intro i hi ih
      rw [hstep i hi, List.drop_eq_getElem_cons hi, List.all_cons, ih]
      cases p l[i] <;> simp
  have := key 0 (Nat.zero_le _)
  simpa using this
theorem aRM (s : ByteArray) : s.toList = s.data.toList := by first | exact ByteArray.toList_eq s | exact Go.ByteArray.toList_eq s
theorem aGS (s : ByteArray) : s.data.toList.length = s.size := by rw [Array.length_toList]; rfl
def aEu (s : ByteArray) (c : UInt8) : ByteArray := if s.data.toList.head? = some c then s.extract 1 s.size else s
theorem aI5 (s : ByteArray) (a b : Nat) : (s.extract a b).data.toList = (s.data.toList.take b).drop a := by
  rw [ByteArray.data_extract, Array.toList_extract, List.extract_eq_take_drop, List.drop_take]
theorem aSa (s : ByteArray) : (aEu s 45).data.toList = qL s.data.toList := by
  have hn := aGS s
  unfold aEu
  cases hl : s.data.toList with
  | nil => simp [qL, hl]
  | cons c r =>
    rw [hl] at hn
    by_cases hc : c = 45
    · subst hc
      rw [if_pos (by simp), aI5, hl, List.take_of_length_le (by omega)]
      simp [qL]
    · have : ¬ c.toNat = 45 := fun h => hc (by rw [← UInt8.toNat_inj]; simpa using h)
      rw [if_neg (by simpa using hc), hl]
      simp [qL, this]
def uH : List UInt8 → Nat
  | [] => 0
  | c :: r => if tW c = true then uH r + 1 else 0
theorem aSB (c : UInt8) (r : List UInt8) : uH (c :: r) = if tW c = true then uH r + 1 else 0 := rfl
theorem aLM : ∀ l : List UInt8, uH l ≤ l.length
  | [] => Nat.le_refl _
  | c :: r => by unfold uH; have := aLM r; split <;> simp <;> omega
theorem aP7 : ∀ l : List UInt8, decide (uH l = l.length) = l.all tW
  | [] => rfl
  | c :: r => by
    have ih := aP7 r
    have hl := aLM r
    unfold uH
    rw [List.all_cons, ← ih]
    cases tW c
    · simp
    · simp
theorem aTn (l : List UInt8) (k : Nat) (hk : k = if neg l = true then 1 else 0) (h0 : l ≠ []) :
    aDX l = (decide (l.length ≤ 40) && decide ((if uH (l.drop k) = 0 ∨ ((l.drop k).head?.map (·.toNat) = some 48 ∧ 1 < uH (l.drop k)) then 0 else k + uH (l.drop k)) = l.length)) := by
  have hd : l.drop k = qL l := by
    cases l with
    | nil => exact absurd rfl h0
    | cons c r => subst hk; by_cases hc : c.toNat = 45 <;> simp [neg, qL, hc]
  have hl : l.length = k + (qL l).length := by
    cases l with
    | nil => exact absurd rfl h0
    | cons c r => subst hk; by_cases hc : c.toNat = 45 <;> simp [neg, qL, hc] <;> omega
  have hpos : 0 < l.length := List.length_pos_iff.2 h0
  rw [hd]
  unfold aDX
  rw [← aP7]
  cases hx : qL l with
  | nil =>
    rw [hx] at hl
    simp at hl
    have : ¬ (0 = l.length) := by omega
    simp [uH, this]
  | cons c r =>
    rw [hx] at hl
    have hle := aLM (c :: r)
    simp only [ne_eq, List.cons_ne_nil, not_false_eq_true, decide_true, Bool.true_and, List.head?_cons, Option.map_some, Option.some.injEq]
    congr 1
    by_cases hz : uH (c :: r) = 0
    · have h1 : ¬ (0 = (c :: r).length) := by simp
      have h2 : ¬ (0 = l.length) := by omega
      simp only [hz, true_or, if_true, h2, decide_false]
      rw [decide_eq_false h1, Bool.false_and]
    · by_cases h48 : c.toNat = 48
      · by_cases h1 : 1 < uH (c :: r)
        · have h2 : ¬ (0 = l.length) := by omega
          have h3 : ¬ ((c :: r).length = 1) := by omega
          rw [if_pos (.inr ⟨h48, h1⟩), decide_eq_false h2, decide_eq_false h3, show decide (¬ c.toNat = 48) = false by simp [h48]]
          simp
        · have h4 : uH (c :: r) = 1 := by omega
          rw [if_neg (by omega), h4, hl, Bool.eq_iff_iff]
          simp [h48]
      · rw [if_neg (by omega), hl, Bool.eq_iff_iff]
        simp [h48]
end Go.Vs
end
