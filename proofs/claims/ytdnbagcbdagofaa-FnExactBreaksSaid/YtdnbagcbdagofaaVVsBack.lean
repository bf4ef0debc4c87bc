/- Behind a call: the caller's frame is told again. And so: a call, as one operation. -/
import Derived.Test.YtdnbagcbdagofaaVVsCall
namespace Go.Vs
variable {m : Bool}
variable {P : Program} {N : Env}
section
variable {s : (St m)} {a : Act} {w : World} {F : Fr} {Ow : Own} {bm : Nat → Nat} {nt : Nat}

theorem Inv.back (h : Inv P s a.tmps w F N Ow bm) {xs : List Operand} {ids : List Nat} {r : (SV m) × List (List (SV m))} {v : Value} {w' : World} {F' : Fr} {OwC : Own} {dst : Option Tmp} (hnd : ids.Nodup) (hex : ∀ b ∈ ids, (boxAt s.boxes b).isSome = true)
    (hI : Inv P { tmps := [r.1], boxes := r.2.map some } #[v] w' F' N OwC (fun i => bm (ids.getD i 0))) (hfar : Far N w F (fun g => (Ow g).bind (toCallee xs ids)) w' F' OwC) (hlen : r.2.length = ids.length)
    (hf1 : r.1.flatT = true) (hf2 : ∀ cs ∈ r.2, ∀ c ∈ cs, c.flat = true) :
    ∃ Ow', Inv P (({ (s.takes xs) with boxes := putBoxes s.boxes ids r.2 } : (St m)).put dst r.1) (a.put dst v).tmps w' F' N Ow' bm ∧ Far N w F Ow w' F' Ow' := by
  let Ow' : Own := fun g => match OwC g with
    | some l => toCaller dst ids l
    | none => if (Ow g).bind (toCallee xs ids) = none then Ow g else none
  have hlt : ∀ k loc, Ow k = some loc → k < w.heap.size := by
    intro k loc hk'
    rcases Nat.lt_or_ge k w.heap.size with h' | h'
    · exact h'
    · rw [(h.new k h').2] at hk'; simp at hk'
  -- what was not handed over
  have keep : ∀ g loc, Ow g = some loc → toCallee xs ids loc = none → w'.heap[g]? = w.heap[g]? ∧ F' g = F g ∧ Ow' g = some loc := by
    intro g loc hg hn
    have hnone : (Ow g).bind (toCallee xs ids) = none := by rw [hg]; exact hn
    obtain ⟨h1, h2, h3⟩ := hfar.old g (hlt g loc hg) hnone
    have hZ : N.Z g = false := by
      cases hz : N.Z g with
      | false => rfl
      | true => rw [(h.zow g hz).1] at hg; simp at hg
    refine ⟨h1 hZ, h2, ?_⟩
    show (match OwC g with | some l => toCaller dst ids l | none => if (Ow g).bind (toCallee xs ids) = none then Ow g else none) = _
    rw [h3]
    simp [hg, hn]
  have hal : ∀ b, s.al b = true → (boxAt (putBoxes s.boxes ids r.2) b).isSome = true := by
    intro b hb
    by_cases hin : b ∈ ids
    · have h1 := placeIn_get hin
      have hi : placeIn ids b < ids.length := (List.getElem?_eq_some_iff.1 h1).1
      obtain ⟨c, hc⟩ := Option.isSome_iff_exists.1 hb
      rw [putBoxes_eq ids r.2 s.boxes _ b _ hnd h1 (List.getElem?_eq_getElem (by rw [hlen]; exact hi)) (boxAt_lt hc)]
      rfl
    · rw [putBoxes_ne ids r.2 s.boxes b hin]; exact hb
  have hp : ∀ b, s.al b = true → bm b = bm b ∧ (boxAt (putBoxes s.boxes ids r.2) b).isSome = true := fun b hb => ⟨rfl, hal b hb⟩
  obtain ⟨htl, htt⟩ := setAll_takes s xs s.tmps rfl
  have hOC : ∀ g l, OwC g = some l → Ow' g = toCaller dst ids l := by
    intro g l hg
    show (match OwC g with | some l => toCaller dst ids l | none => if (Ow g).bind (toCallee xs ids) = none then Ow g else none) = _
    rw [hg]
  have hfarO : Far N w F Ow w' F' Ow' := by
    refine ⟨hfar.os, hfar.tape, hfar.output, hfar.size, hfar.keeps, fun g hg ho => ?_⟩
    obtain ⟨h1, h2, h3⟩ := hfar.old g hg (by rw [ho]; rfl)
    refine ⟨h1, h2, ?_⟩
    show (match OwC g with | some l => toCaller dst ids l | none => if (Ow g).bind (toCallee xs ids) = none then Ow g else none) = none
    rw [h3]
    simp [ho]
  have hbase : Inv P ({ (s.takes xs) with boxes := putBoxes s.boxes ids r.2 } : (St m)) a.tmps w' F' N Ow' bm := by
    refine ⟨by rw [← h.len]; exact htl, fun t => ?_, fun b cs hb => ?_, Nat.le_trans h.low hfar.size, fun g hg => ?_, fun b cs hb => ?_, fun g hz => ⟨?_, (hI.zow g hz).2⟩⟩
    · show RepS P w' F' N Ow' bm (fun b => (boxAt (putBoxes s.boxes ids r.2) b).isSome) (.tmp t) ((setAll s.tmps (xs.flatMap (takeE s.eval))).getD t .any) _
      rw [List.getD_eq_getElem?_getD]
      by_cases ht : t ∈ operandTmps xs
      · by_cases hl : t < s.tmps.length
        · rw [(htt t).1 ht hl]
          simp only [Option.getD_some]
          exact RepS.to hfar.keeps (RepS.drop (Ow' := Ow) (loc' := .tmp t) (h.slot t)) hp fun ho => by rw [drop_not_own] at ho; simp at ho
        · rw [List.getElem?_eq_none (by rw [htl]; omega)]
          exact RepS.any
      · rw [(htt t).2 ht, ← List.getD_eq_getElem?_getD]
        exact (h.slot t).to hfar.keeps hp fun _ g hg => keep g _ hg (by simp [toCallee, argAt_none ht])
    · have hb' : boxAt (putBoxes s.boxes ids r.2) b = some cs := hb
      by_cases hin : b ∈ ids
      · have h1 := placeIn_get hin
        have hi : placeIn ids b < ids.length := (List.getElem?_eq_some_iff.1 h1).1
        have hi2 : placeIn ids b < r.2.length := by rw [hlen]; exact hi
        obtain ⟨c0, hc0⟩ := Option.isSome_iff_exists.1 (hex b hin)
        rw [putBoxes_eq ids r.2 s.boxes _ b _ hnd h1 (List.getElem?_eq_getElem hi2) (boxAt_lt hc0)] at hb'
        cases hb'
        obtain ⟨cur, e, g1, g2, g3, g4, g5⟩ := hI.box (placeIn ids b) r.2[placeIn ids b] (by
          show boxAt (r.2.map some) _ = _
          unfold boxAt
          rw [List.getD_eq_getElem?_getD, List.getElem?_map, List.getElem?_eq_getElem hi2]; rfl)
        have hgd : ids.getD (placeIn ids b) 0 = b := by rw [List.getD_eq_getElem?_getD, h1]; rfl
        rw [hgd] at g1 g3 g4
        refine ⟨cur, e, g1, g2, g3, ?_, fun j c u hc hu => ?_⟩
        · rw [hOC _ _ g4]; simp [toCaller, h1]
        · refine (g5 j c u hc hu).flat (flat_flatT (hf2 _ (List.getElem_mem hi2) c (List.mem_of_getElem? hc))) fun _ g hg => ?_
          rw [hOC _ _ hg]; simp [toCaller, h1]
      · rw [putBoxes_ne ids r.2 s.boxes b hin] at hb'
        obtain ⟨cur, e, g1, g2, g3, g4, g5⟩ := h.box b cs hb'
        obtain ⟨k1, k2, k3⟩ := keep (bm b) _ g4 (by simp [toCallee, hin])
        exact ⟨cur, e, k1.trans g1, g2, k2.trans g3, k3, fun j c u hc hu => (g5 j c u hc hu).to hfar.keeps hp fun _ g hg => keep g _ hg (by simp [toCallee, hin])⟩
    · obtain ⟨n1, n2⟩ := hI.new g hg
      refine ⟨n1, ?_⟩
      show (match OwC g with | some l => toCaller dst ids l | none => if (Ow g).bind (toCallee xs ids) = none then Ow g else none) = none
      rw [n2]
      have := (h.new g (Nat.le_trans hfar.size hg)).2
      simp [this]
    · have hb' : (boxAt (putBoxes s.boxes ids r.2) b) = some cs := hb
      by_cases hin : b ∈ ids
      · obtain ⟨c0, hc0⟩ := Option.isSome_iff_exists.1 (hex b hin)
        exact h.bmn b c0 hc0
      · rw [putBoxes_ne ids r.2 s.boxes b hin] at hb'
        exact h.bmn b cs hb'
    · show (match OwC g with | some l => toCaller dst ids l | none => if (Ow g).bind (toCallee xs ids) = none then Ow g else none) = none
      rw [(hI.zow g hz).1]
      have := (h.zow g hz).1
      simp [this]
  refine ⟨Ow', hbase.put (a := a) fun d hd => ?_, hfarO⟩
  have h0 := hI.slot 0
  simp only [List.getD_cons_zero] at h0
  have h0' : RepS P w' F' N OwC (fun i => bm (ids.getD i 0)) (fun b => (boxAt (r.2.map some) b).isSome) (.tmp 0) r.1 v := h0
  exact h0'.flat hf1 fun _ g hg => by rw [hOC _ _ hg]; simp [toCaller, hd]

theorem ren_nil {f : Nat → Nat} {x : (SV m)} (h : x.boxIds = []) : x.ren f = x := by
  cases x with
  | ptr b o => simp [SV.boxIds] at h
  | bsl b z lo n => simp [SV.boxIds] at h
  | fn g caps =>
    simp only [SV.ren]
    congr 1
    refine (List.map_congr_left (g := id) fun c hc => ?_).trans (List.map_id caps)
    cases c with
    | ptr b o =>
      have : b ∈ SV.boxIds (.fn g caps) := List.mem_flatMap.2 ⟨_, hc, by simp⟩
      rw [h] at this
      simp at this
    | _ => rfl
  | _ => rfl

theorem handed_ren {f : Nat → Nat} {args : List (SV m)} (h : args.all SV.handed = true) : (args.map (SV.ren f)).all SV.handed = true := by
  rw [List.all_map, List.all_eq_true] at *
  intro x hx
  have hok := h x hx
  cases x with
  | fn g caps =>
    simp only [Function.comp, SV.ren, SV.handed, List.all_map]
    rw [List.all_eq_true]
    intro c hc
    have := List.all_eq_true.1 hok c hc
    cases c <;> first | rfl | exact this
  | _ => exact hok

/-- A call in one form. -/
theorem callE_eq {D : (Oracle m)} {bs : (Boxes m)} {pu : Bool} {f : FuncId} {args : List (SV m)} {q : (SV m) × Option (Boxes m)} (h : callE D bs pu f args = some q) :
    args.all SV.handed = true ∧ ∃ cs r, boxesAt bs (idsOf args) = some cs ∧ (∀ c ∈ cs, ∀ x ∈ c, x.flat = true) ∧ D f (args.map (SV.ren (placeIn (idsOf args)))) cs = some r ∧ q.1 = r.1 ∧ q.2.getD bs = putBoxes bs (idsOf args) r.2 := by
  unfold callE at h
  obtain ⟨h1, h2⟩ := guarded_eq h
  refine ⟨h1, ?_⟩
  split at h2
  · split at h2
    · rename_i hids
      rw [Option.map_eq_some_iff] at h2
      obtain ⟨r, hr, rfl⟩ := h2
      have hmap : args.map (SV.ren (placeIn (idsOf args))) = args := by
        have : ∀ x ∈ args, x.ren (placeIn (idsOf args)) = x := by
          intro x hx
          refine ren_nil ?_
          cases hb : x.boxIds with
          | nil => rfl
          | cons b l =>
            have : b ∈ idsOf args := mem_idsOf.2 ⟨x, hx, by rw [hb]; simp⟩
            rw [hids] at this
            simp at this
        calc args.map _ = args.map id := List.map_congr_left (fun x hx => by simpa using this x hx)
          _ = args := List.map_id args
      refine ⟨[], r, by rw [hids]; rfl, by simp, by rw [hmap]; exact hr, rfl, ?_⟩
      rw [hids]
      simp only [Option.getD_none]
      cases r.2 <;> rfl
    · simp at h2
  · rw [Option.bind_eq_some_iff] at h2
    obtain ⟨cs, hcs, h3⟩ := h2
    obtain ⟨h4, h5⟩ := guarded_eq h3
    rw [Option.map_eq_some_iff] at h5
    obtain ⟨r, hr, rfl⟩ := h5
    refine ⟨cs, r, hcs, fun c hc x hx => ?_, hr, rfl, rfl⟩
    exact List.all_eq_true.1 (List.all_eq_true.1 h4 c hc) x hx

theorem sound_call {D : (Oracle m)} (hD : DSound P D) (h : Inv P s a.tmps w F N Ow bm) {o : Oper} {mv : Bool} {c : Call} {g : Operand} {e : (Eff m)} {pu ta : Bool} (ho : o.op = .call c) (hc : c.callee = .value g)
    (he : effO P D nt mv pu ta o s.eval s.boxes = some e) {next : Act → World → Prop} {Q : Exit → Act → World → Prop} (hk : ∀ a' w', Step P N nt (e.app s) a w F Ow bm a' w' → next a' w') : o.wp P a w next Q := by
  simp only [effO, ho, hc] at he
  split at he
  · rename_i f caps hge
    obtain ⟨hnd, he'⟩ := guarded_eq he
    clear he
    rw [Option.map_eq_some_iff] at he'
    obtain ⟨q, hq, rfl⟩ := he'
    have hnd' := of_decide_eq_true hnd
    obtain ⟨hh, cs, r, hcs, hfl, hr, hq1, hq2⟩ := callE_eq hq
    have hgv := h.eval (a := a) rfl g
    rw [hge] at hgv
    obtain ⟨vs, hv, hvs, hcap⟩ := hgv
    obtain ⟨hrl, hf1, hf2, ⟨fn, hfn, hname, hbody⟩, hcalls⟩ := hD N f _ _ _ hr (handed_ren hh) hfl
    have hent := h.enter (xs := c.args.toList) (caps := caps) (vs := vs.toList) hnd' hh ⟨by simpa using hvs, fun j c u a b => hcap j c u a (by simpa using b)⟩ hcs hfl
    have hC := hcalls w F _ _ _ hent
    have hlen : cs.length = (idsOf (c.args.toList.map (argV ta s.eval) ++ caps)).length := (boxesAt_get hcs).1
    have hrun : (execOp a.eval o).run P w = .ok (.enter f (c.args.toList.map a.eval ++ vs.toList).toArray) w := by
      have e1 : (c.args.toList.map a.eval ++ vs.toList).toArray = c.args.map a.eval ++ vs := by
        apply Array.ext'
        simp
      rw [e1]
      have hn1 : ¬ fn.name = "runtime.NumGoroutine" := by simpa using hname
      have hn2 : ¬ fn.body = none := by intro e; rw [e] at hbody; simp at hbody
      simp [execOp, ho, resolve, hc, hv, Deferred.ofValue, invoke, callFunc, hfn, hn1, hn2]
    unfold Oper.wp
    rw [hrun, Oper.upon_enter]
    refine hC.mono ?_
    rintro ed w' ⟨v, F', OwC, rfl, hI, hfar⟩
    obtain ⟨Ow', k1, k2⟩ := h.back (dst := o.dst) (idsOf_nodup _) (fun b hb => by
      obtain ⟨i, hi⟩ := List.getElem?_of_mem hb
      obtain ⟨_, _, hx⟩ := (boxesAt_get hcs).2 i b hi
      rw [hx]; rfl) hI hfar (by rw [hrl, hlen]) hf1 hf2
    refine hk _ _ ⟨F', Ow', bm, ?_, k2, fun _ _ => rfl, put_defers _ _⟩
    have : ((⟨(takenL ta c.args.toList).flatMap (takeE s.eval) ++ dstE o.dst q.1, q.2⟩ : (Eff m)).app s) = ({ (s.takes (takenL ta c.args.toList)) with boxes := putBoxes s.boxes (idsOf (c.args.toList.map (argV ta s.eval) ++ caps)) r.2 } : (St m)).put o.dst r.1 := by
      rw [put_eq, hq1]
      simp only [Eff.app, St.takes, setAll_append, hq2]
    rw [this]
    exact k1
  · simp at he
end
end Go.Vs
