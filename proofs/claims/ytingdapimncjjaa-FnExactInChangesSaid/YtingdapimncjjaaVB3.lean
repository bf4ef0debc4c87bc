/- What the program's functions compute, read off their text by the shadow runner (VsAt, VsNm, CNm, CHs, VsTy, VsRow, VsRe, VsLift, VsPhase, VsTurn, VsLaw); no condition. -/
import Derived.Test.YtingdapimncjjaaRows
import Derived.KernelRfl
import Derived.ChangeArms
import Derived.DataReads
import Derived.Below
import Derived.Test.YtingdapimncjjaaVB2
section
/- A function's code from a place in it on: the piece that lies there, and what goes on behind it. A loop, one round opened. -/
namespace Go.Vs
variable {m : Bool}
/-- The block around a place, which names its loop. -/
def blkAt : Nat → Code → List Nat → Nat
  | b, _, [] => b
  | b, .seq x y, n :: r => if n = 0 then blkAt b x r else blkAt b y r
  | b, .cond _ x y, n :: r => if n = 0 then blkAt b x r else blkAt b y r
  | _, .block id x, _ :: r => blkAt id x r
  | b, .loop x, _ :: r => blkAt b x r
  | b, _, _ => b
def loopK2 {β : Type} (ts bs : List Nat) (L : (St m) → Option β) (k : (Out m) → Option β) : (Out m) → Option β
  | .norm s => (s.again ts bs).bind L
  | .exit id s => k (.exit id s)
  | .ret s => k (.ret s)
/-- What goes on behind a place. -/
noncomputable def contK {β : Type} (P : Program) (D : (Oracle m)) (H : Hints) : Nat → Code → List Nat → ((Out m) → Option β) → (Out m) → Option β
  | _, _, [], k => k
  | b, .seq x y, n :: r, k => if n = 0 then contK P D H b x r (seqK (fun s => code2K P D H limR b y s k) k) else contK P D H b y r k
  | b, .cond _ x y, n :: r, k => if n = 0 then contK P D H b x r k else contK P D H b y r k
  | _, .block id x, _ :: r, k => contK P D H id x r (blockK id k)
  | b, .loop x, _ :: r, k => contK P D H b x r (loopK2 (H.clear b) (H.drop b) (fun s => code2K P D H limR b (.loop x) s k) k)
  | _, _, _, k => k
noncomputable def atF (P : Program) (D : (Oracle m)) (H : FuncId → Hints) (f : FuncId) (p : List Nat) (n : Nat) (s : (St m)) : Option ((SV m) × List (List (SV m))) :=
  code2K P D ((H f).fit (fnOf P f).ntmps) limR (blkAt 0 (bodyOf P f) p) (sub (bodyOf P f) p) s (contK P D ((H f).fit (fnOf P f).ntmps) 0 (bodyOf P f) p (endK P (fnOf P f) n))

/-- A loop, one round opened, and what goes on behind it. -/
theorem loop_open {β : Type} (P : Program) (D : (Oracle m)) (H : Hints) (b : Nat) (c : Code) (s : (St m)) (k : (Out m) → Option β) :
    code2K P D H limR b (.loop c) s k = (s.again (H.clear b) (H.drop b)).bind fun s => code2K P D H limR b c s (loopK2 (H.clear b) (H.drop b) (fun s => code2K P D H limR b (.loop c) s k) k) := by
  have h0 : ∀ s, code2K P D H limR b (.loop c) s k = (loopV P D H b c s).bind k := fun s => rfl
  rw [h0, loopV_open]
  unfold roundV
  rw [Option.bind_assoc]
  congr 1
  funext s'
  rw [code2_bind]
  congr 1
  funext o
  cases o with
  | norm s2 =>
    simp only [loopK, loopK2, Option.bind_assoc]
    congr 1
  | exit id s2 => rfl
  | ret s2 => rfl
theorem atF_loop {P : Program} {D : (Oracle m)} {H : FuncId → Hints} {f : FuncId} {p : List Nat} {c : Code} (hc : sub (bodyOf P f) p = .loop c) (n : Nat) (s : (St m)) :
    atF P D H f p n s = (s.again (((H f).fit (fnOf P f).ntmps).clear (blkAt 0 (bodyOf P f) p)) (((H f).fit (fnOf P f).ntmps).drop (blkAt 0 (bodyOf P f) p))).bind fun s =>
      code2K P D ((H f).fit (fnOf P f).ntmps) limR (blkAt 0 (bodyOf P f) p) c s (loopK2 (((H f).fit (fnOf P f).ntmps).clear (blkAt 0 (bodyOf P f) p)) (((H f).fit (fnOf P f).ntmps).drop (blkAt 0 (bodyOf P f) p))
        (fun s => code2K P D ((H f).fit (fnOf P f).ntmps) limR (blkAt 0 (bodyOf P f) p) (.loop c) s (contK P D ((H f).fit (fnOf P f).ntmps) 0 (bodyOf P f) p (endK P (fnOf P f) n))) (contK P D ((H f).fit (fnOf P f).ntmps) 0 (bodyOf P f) p (endK P (fnOf P f) n))) := by
  unfold atF
  rw [hc]
  exact loop_open _ _ _ _ _ _ _
end Go.Vs
end
section
/- A function's code read up to named places: what goes on there is told by a function of its own. -/
namespace Go.Vs
variable {m : Bool}
section
variable {β : Type}
/-- The piece c, which lies at the place r (told backwards); pieces at the places nm, and loops, are left to J. -/
def codeN (P : Program) (D : (Oracle m)) (H : Hints) (nm : List (List Nat)) (J : List Nat × (St m) → Option β) : List Nat → Nat → Code → (St m) → ((Out m) → Option β) → Option β
  | _, _, .skip, s, k => k (.norm s)
  | _, _, .region id ops draw, s, k => guarded (!draw || okRegion (H.mv id) (H.pure id) (H.take id) ops) (steps2K P D H.nt (H.mv id) (H.pure id) (H.take id) ops ops.toList 0 s fun s' => forceSt (s'.tidy (H.after id) (H.afterB id)) fun s' => k (.norm s'))
  | r, blk, .seq a b, s, k =>
    if nm.contains (0 :: r).reverse then J ((0 :: r).reverse, s) else codeN P D H nm J (0 :: r) blk a s (seqK (fun s' => if nm.contains (1 :: r).reverse then J ((1 :: r).reverse, s') else codeN P D H nm J (1 :: r) blk b s' k) k)
  | r, blk, .cond c a b, s, k => onBool (s.eval c) fun t => branch t
      (forceSt (s.dropC H.condA c) fun s => if nm.contains (0 :: r).reverse then J ((0 :: r).reverse, s) else codeN P D H nm J (0 :: r) blk a s k)
      (forceSt (s.dropC H.condB c) fun s => if nm.contains (1 :: r).reverse then J ((1 :: r).reverse, s) else codeN P D H nm J (1 :: r) blk b s k)
  | r, _, .block id a, s, k => if nm.contains (0 :: r).reverse then J ((0 :: r).reverse, s) else codeN P D H nm J (0 :: r) id a s (blockK id k)
  | r, blk, .loop a, s, k => (s.again (H.clear blk) (H.drop blk)).bind fun s => if nm.contains (0 :: r).reverse then J ((0 :: r).reverse, s) else codeN P D H nm J (0 :: r) blk a s (loopK2 (H.clear blk) (H.drop blk) (fun s => J (r.reverse, s)) k)
  | _, _, .exit id, s, k => k (.exit id s)
  | _, _, .ret, s, k => k (.ret s)
  | _, _, _, _, _ => none

theorem sub_append : ∀ (p : List Nat) (c : Code) (q : List Nat), sub c (p ++ q) = sub (sub c p) q
  | [], c, q => by simp [sub]
  | n :: p, c, q => by
    cases c <;> simp only [List.cons_append, sub]
    case seq a b => split <;> exact sub_append p _ q
    case cond x a b => split <;> exact sub_append p _ q
    case block id a => exact sub_append p _ q
    case loop a => exact sub_append p _ q
    all_goals (cases q <;> rfl)
theorem blkAt_append : ∀ (p : List Nat) (b : Nat) (c : Code) (q : List Nat), blkAt b c (p ++ q) = blkAt (blkAt b c p) (sub c p) q
  | [], b, c, q => by simp [sub, blkAt]
  | n :: p, b, c, q => by
    cases c <;> simp only [List.cons_append, sub, blkAt]
    case seq x y => split <;> exact blkAt_append p _ _ q
    case cond x x y => split <;> exact blkAt_append p _ _ q
    case block id x => exact blkAt_append p _ _ q
    case loop x => exact blkAt_append p _ _ q
    all_goals (cases q <;> rfl)
theorem contK_append (P : Program) (D : (Oracle m)) (H : Hints) : ∀ (p : List Nat) (b : Nat) (c : Code) (q : List Nat) (k : (Out m) → Option β), contK P D H b c (p ++ q) k = contK P D H (blkAt b c p) (sub c p) q (contK P D H b c p k)
  | [], b, c, q, k => by simp [sub, blkAt, contK]
  | n :: p, b, c, q, k => by
    cases c <;> simp only [List.cons_append, sub, blkAt, contK]
    case seq x y => split <;> exact contK_append P D H p _ _ q _
    case cond x x y => split <;> exact contK_append P D H p _ _ q _
    case block id x => exact contK_append P D H p _ _ q _
    case loop x => exact contK_append P D H p _ _ q _
    all_goals (cases q <;> rfl)

theorem codeN_eq {P : Program} {D : (Oracle m)} {H : Hints} {nm : List (List Nat)} {J : List Nat × (St m) → Option β} {root : Code} {kE : (Out m) → Option β}
    (hJ : ∀ p s, J (p, s) = code2K P D H limR (blkAt 0 root p) (sub root p) s (contK P D H 0 root p kE)) :
    ∀ (c : Code) (r : List Nat) (blk : Nat) (s : (St m)) (k : (Out m) → Option β), sub root r.reverse = c → blkAt 0 root r.reverse = blk → contK P D H 0 root r.reverse kE = k → codeN P D H nm J r blk c s k = code2K P D H limR blk c s k := by
  intro c
  induction c with
  | skip => intro r blk s k _ _ _; rfl
  | region id ops draw => intro r blk s k _ _ _; rfl
  | seq a b iha ihb =>
    intro r blk s k hc hb hk
    have ha0 : sub root (0 :: r).reverse = a := by rw [List.reverse_cons, sub_append, hc]; simp [sub]
    have ha1 : blkAt 0 root (0 :: r).reverse = blk := by rw [List.reverse_cons, blkAt_append, hc, hb]; simp [blkAt]
    have ha2 : contK P D H 0 root (0 :: r).reverse kE = seqK (fun s => code2K P D H limR blk b s k) k := by rw [List.reverse_cons, contK_append, hc, hb, hk]; simp [contK]
    have hb0 : sub root (1 :: r).reverse = b := by rw [List.reverse_cons, sub_append, hc]; simp [sub]
    have hb1 : blkAt 0 root (1 :: r).reverse = blk := by rw [List.reverse_cons, blkAt_append, hc, hb]; simp [blkAt]
    have hb2 : contK P D H 0 root (1 :: r).reverse kE = k := by rw [List.reverse_cons, contK_append, hc, hb, hk]; simp [contK]
    have eb : (fun s' => if nm.contains (1 :: r).reverse then J ((1 :: r).reverse, s') else codeN P D H nm J (1 :: r) blk b s' k) = fun s' => code2K P D H limR blk b s' k := by
      funext s'
      split
      · rw [hJ, hb0, hb1, hb2]
      · exact ihb _ _ _ _ hb0 hb1 hb2
    simp only [codeN, code2K]
    rw [eb]
    split
    · rw [hJ, ha0, ha1, ha2]
    · exact iha _ _ _ _ ha0 ha1 ha2
  | cond x a b iha ihb =>
    intro r blk s k hc hb hk
    have ha0 : sub root (0 :: r).reverse = a := by rw [List.reverse_cons, sub_append, hc]; simp [sub]
    have ha1 : blkAt 0 root (0 :: r).reverse = blk := by rw [List.reverse_cons, blkAt_append, hc, hb]; simp [blkAt]
    have ha2 : contK P D H 0 root (0 :: r).reverse kE = k := by rw [List.reverse_cons, contK_append, hc, hb, hk]; simp [contK]
    have hb0 : sub root (1 :: r).reverse = b := by rw [List.reverse_cons, sub_append, hc]; simp [sub]
    have hb1 : blkAt 0 root (1 :: r).reverse = blk := by rw [List.reverse_cons, blkAt_append, hc, hb]; simp [blkAt]
    have hb2 : contK P D H 0 root (1 :: r).reverse kE = k := by rw [List.reverse_cons, contK_append, hc, hb, hk]; simp [contK]
    simp only [codeN, code2K, forceSt_eq]
    congr 1
    funext t
    congr 1
    · split
      · rw [hJ, ha0, ha1, ha2]
      · exact iha _ _ _ _ ha0 ha1 ha2
    · split
      · rw [hJ, hb0, hb1, hb2]
      · exact ihb _ _ _ _ hb0 hb1 hb2
  | block id a ih =>
    intro r blk s k hc hb hk
    have ha0 : sub root (0 :: r).reverse = a := by rw [List.reverse_cons, sub_append, hc]; simp [sub]
    have ha1 : blkAt 0 root (0 :: r).reverse = id := by rw [List.reverse_cons, blkAt_append, hc, hb]; simp [blkAt]
    have ha2 : contK P D H 0 root (0 :: r).reverse kE = blockK id k := by rw [List.reverse_cons, contK_append, hc, hb, hk]; simp [contK]
    simp only [codeN, code2K]
    split
    · rw [hJ, ha0, ha1, ha2]
    · exact ih _ _ _ _ ha0 ha1 ha2
  | loop a ih =>
    intro r blk s k hc hb hk
    have ha0 : sub root (0 :: r).reverse = a := by rw [List.reverse_cons, sub_append, hc]; simp [sub]
    have ha1 : blkAt 0 root (0 :: r).reverse = blk := by rw [List.reverse_cons, blkAt_append, hc, hb]; simp [blkAt]
    have eL : (fun s => J (r.reverse, s)) = fun s => code2K P D H limR blk (.loop a) s k := by funext s'; rw [hJ, hc, hb, hk]
    have ha2 : contK P D H 0 root (0 :: r).reverse kE = loopK2 (H.clear blk) (H.drop blk) (fun s => code2K P D H limR blk (.loop a) s k) k := by rw [List.reverse_cons, contK_append, hc, hb, hk]; simp [contK]
    simp only [codeN]
    rw [loop_open, eL]
    congr 1
    funext s'
    split
    · rw [hJ, ha0, ha1, ha2]
    · exact ih _ _ _ _ ha0 ha1 ha2
  | exit id => intro r blk s k _ _ _; rfl
  | ret => intro r blk s k _ _ _; rfl
  | _ => intro r blk s k _ _ _; rfl
end

/-- What goes on behind a place, read up to the named places; r: the way to the piece c, told backwards. -/
noncomputable def contN {β : Type} (P : Program) (D : (Oracle m)) (H : Hints) (nm : List (List Nat)) (J : List Nat × (St m) → Option β) : List Nat → Nat → Code → List Nat → ((Out m) → Option β) → (Out m) → Option β
  | _, _, _, [], k => k
  | r, b, .seq x y, n :: p, k => if n = 0 then contN P D H nm J (n :: r) b x p (seqK (fun s => if nm.contains (1 :: r).reverse then J ((1 :: r).reverse, s) else codeN P D H nm J (1 :: r) b y s k) k) else contN P D H nm J (n :: r) b y p k
  | r, b, .cond _ x y, n :: p, k => if n = 0 then contN P D H nm J (n :: r) b x p k else contN P D H nm J (n :: r) b y p k
  | r, _, .block id x, n :: p, k => contN P D H nm J (n :: r) id x p (blockK id k)
  | r, b, .loop x, n :: p, k => contN P D H nm J (n :: r) b x p (loopK2 (H.clear b) (H.drop b) (fun s => J (r.reverse, s)) k)
  | _, _, _, _, k => k
theorem contN_eq {β : Type} {P : Program} {D : (Oracle m)} {H : Hints} {nm : List (List Nat)} {J : List Nat × (St m) → Option β} {root : Code} {kE : (Out m) → Option β}
    (hJ : ∀ p s, J (p, s) = code2K P D H limR (blkAt 0 root p) (sub root p) s (contK P D H 0 root p kE)) :
    ∀ (p : List Nat) (c : Code) (r : List Nat) (blk : Nat) (k : (Out m) → Option β), sub root r.reverse = c → blkAt 0 root r.reverse = blk → contK P D H 0 root r.reverse kE = k → contN P D H nm J r blk c p k = contK P D H blk c p k := by
  intro p
  induction p with
  | nil => intro c r blk k _ _ _; simp [contN, contK]
  | cons n p ih =>
    intro c r blk k hc hb hk
    have hs : ∀ n, sub root (n :: r).reverse = sub c [n] := fun n => by rw [List.reverse_cons, sub_append, hc]
    have hbl : ∀ n, blkAt 0 root (n :: r).reverse = blkAt blk c [n] := fun n => by rw [List.reverse_cons, blkAt_append, hc, hb]
    have hkk : ∀ n, contK P D H 0 root (n :: r).reverse kE = contK P D H blk c [n] k := fun n => by rw [List.reverse_cons, contK_append, hc, hb, hk]
    cases c with
    | seq x y =>
      have hb0 : sub root (1 :: r).reverse = y := by rw [hs]; simp [sub]
      have hb1 : blkAt 0 root (1 :: r).reverse = blk := by rw [hbl]; simp [blkAt]
      have hb2 : contK P D H 0 root (1 :: r).reverse kE = k := by rw [hkk]; simp [contK]
      have eb : (fun s => if nm.contains (1 :: r).reverse then J ((1 :: r).reverse, s) else codeN P D H nm J (1 :: r) blk y s k) = fun s => code2K P D H limR blk y s k := by
        funext s'
        split
        · rw [hJ, hb0, hb1, hb2]
        · exact codeN_eq hJ _ _ _ _ _ hb0 hb1 hb2
      simp only [contN, contK]
      rw [eb]
      by_cases hn : n = 0
      · subst hn
        simp only [if_true]
        exact ih _ _ _ _ (by rw [hs]; simp [sub]) (by rw [hbl]; simp [blkAt]) (by rw [hkk]; simp [contK])
      · simp only [hn, if_false]
        exact ih _ _ _ _ (by rw [hs]; simp [sub, hn]) (by rw [hbl]; simp [blkAt, hn]) (by rw [hkk]; simp [contK, hn])
    | cond z x y =>
      simp only [contN, contK]
      by_cases hn : n = 0
      · subst hn
        simp only [if_true]
        exact ih _ _ _ _ (by rw [hs]; simp [sub]) (by rw [hbl]; simp [blkAt]) (by rw [hkk]; simp [contK])
      · simp only [hn, if_false]
        exact ih _ _ _ _ (by rw [hs]; simp [sub, hn]) (by rw [hbl]; simp [blkAt, hn]) (by rw [hkk]; simp [contK, hn])
    | block id x =>
      simp only [contN, contK]
      exact ih _ _ _ _ (by rw [hs]; simp [sub]) (by rw [hbl]; simp [blkAt]) (by rw [hkk]; simp [contK])
    | loop x =>
      have eL : (fun s => J (r.reverse, s)) = fun s => code2K P D H limR blk (.loop x) s k := by funext s'; rw [hJ, hc, hb, hk]
      simp only [contN, contK]
      rw [eL]
      exact ih _ _ _ _ (by rw [hs]; simp [sub]) (by rw [hbl]; simp [blkAt]) (by rw [hkk]; simp [contK])
    | _ => simp [contN, contK]

/-- A function's code from a place on, read up to the named places. -/
noncomputable def nameF (P : Program) (D : (Oracle m)) (H : FuncId → Hints) (f : FuncId) (nm : List (List Nat)) (n : Nat) (J : List Nat × (St m) → Option ((SV m) × List (List (SV m)))) (x : List Nat × (St m)) : Option ((SV m) × List (List (SV m))) :=
  codeN P D ((H f).fit (fnOf P f).ntmps) nm J x.1.reverse (blkAt 0 (bodyOf P f) x.1) (sub (bodyOf P f) x.1) x.2 (contN P D ((H f).fit (fnOf P f).ntmps) nm J [] 0 (bodyOf P f) x.1 (endK P (fnOf P f) n))
theorem nameF_eq {P : Program} {D : (Oracle m)} {H : FuncId → Hints} {f : FuncId} {n : Nat} {J : List Nat × (St m) → Option ((SV m) × List (List (SV m)))} (hJ : ∀ p s, J (p, s) = atF P D H f p n s) (nm : List (List Nat)) (x : List Nat × (St m)) :
    J x = nameF P D H f nm n J x := by
  obtain ⟨p, s⟩ := x
  rw [hJ]
  unfold nameF atF
  rw [contN_eq (root := bodyOf P f) (fun p s => hJ p s) _ _ _ _ _ (by simp [sub]) (by simp [blkAt]) (by simp [contK])]
  exact (codeN_eq (root := bodyOf P f) (fun p s => hJ p s) _ _ _ _ _ (by simp) (by simp) (by simp)).symm
end Go.Vs
namespace Go.Vs
theorem run_names {m : Bool} {P : Program} {D : (Oracle m)} {H : FuncId → Hints} {f : FuncId} {args : List (SV m)} {boxes : List (List (SV m))} {J : List Nat × (St m) → Option ((SV m) × List (List (SV m)))}
    (hb : ((P.funcs[f]?).bind (·.body)).isSome = true) (hJ : ∀ p s, J (p, s) = atF P D H f p boxes.length s) (nm : List (List Nat)) :
    run2V P D H limR f args boxes = nameF P D H f nm boxes.length J ([], enterV (fnOf P f) args boxes) := by
  rw [← nameF_eq hJ, hJ]
  unfold run2V atF fnOf bodyOf
  cases hfn : P.funcs[f]? with
  | none => rw [hfn] at hb; simp at hb
  | some fn =>
    rw [hfn] at hb
    simp only [Option.bind_some] at hb
    cases hc : fn.body with
    | none => rw [hc] at hb; simp at hb
    | some c => simp [sub, blkAt, contK, hc]
end Go.Vs
end
section
/- The numbers of the program's functions and types, under names. -/
namespace Go.Vs
namespace F
abbrev main_main : Nat := 0
abbrev gosem_cut : Nat := 1
abbrev gosem_cut_init : Nat := 2
abbrev laws_FnExactOfClass : Nat := 3
abbrev laws_FnExactInChanges : Nat := 4
abbrev laws_szChangeS : Nat := 5
abbrev spec_OfClass : Nat := 6
abbrev laws_toChangeS : Nat := 7
abbrev impl_OfClass : Nat := 8
abbrev laws_eqChangeS : Nat := 9
abbrev laws_markChangeS : Nat := 10
abbrev laws_heldChangeS : Nat := 11
abbrev laws_szInDefS : Nat := 12
abbrev spec_InChanges : Nat := 13
abbrev laws_toInDefS : Nat := 14
abbrev impl_InChanges : Nat := 15
abbrev laws_eqInDefS : Nat := 16
abbrev laws_markInDefS : Nat := 17
abbrev laws_szChange : Nat := 18
abbrev spec_ClassOf : Nat := 19
abbrev laws_toChange : Nat := 20
abbrev slices_DeleteFunc_S_impl_Change_impl_Change : Nat := 21
abbrev slices_Clone_S_impl_Change_impl_Change : Nat := 22
abbrev impl_OfClass_1 : Nat := 23
abbrev impl_ClassOf : Nat := 24
abbrev laws_eqChange : Nat := 25
abbrev laws_markText : Nat := 26
abbrev laws_szInDef : Nat := 27
abbrev spec_InAt : Nat := 28
abbrev spec_Compatible : Nat := 29
abbrev spec_Needed : Nat := 30
abbrev spec_SameValue : Nat := 31
abbrev laws_toInDef : Nat := 32
abbrev impl_InAt : Nat := 33
abbrev impl_changes_add : Nat := 34
abbrev impl_Compatible : Nat := 35
abbrev impl_Needed : Nat := 36
abbrev impl_SameValue : Nat := 37
abbrev laws_eqInDef : Nat := 38
abbrev laws_markValueS : Nat := 39
abbrev laws_markStringS : Nat := 40
abbrev laws_markDirS : Nat := 41
abbrev spec_l01In : Nat := 42
abbrev slices_IndexFunc_S_impl_Change_impl_Change : Nat := 43
abbrev impl_in : Nat := 44
abbrev laws_szType : Nat := 45
abbrev laws_szValue : Nat := 46
abbrev laws_szDirS : Nat := 47
abbrev laws_toType : Nat := 48
abbrev laws_toValue : Nat := 49
abbrev laws_toDirS : Nat := 50
abbrev slices_IndexFunc_S_impl_InDef_impl_InDef : Nat := 51
abbrev impl_InAt_1 : Nat := 52
abbrev impl_unwrapped : Nat := 53
abbrev strings_HasSuffix : Nat := 54
abbrev slices_Equal_S_string_string : Nat := 55
abbrev slices_EqualFunc_S_impl_Value_S_impl_Value_impl_Value_impl_Value : Nat := 56
abbrev laws_eqType : Nat := 57
abbrev laws_eqValue : Nat := 58
abbrev laws_eqDirS : Nat := 59
abbrev laws_markArgS : Nat := 60
abbrev laws_szValueS : Nat := 61
abbrev laws_szStringS : Nat := 62
abbrev laws_szDir : Nat := 63
abbrev laws_toValueS : Nat := 64
abbrev laws_toStringS : Nat := 65
abbrev laws_toDir : Nat := 66
abbrev strings_CutSuffix : Nat := 67
abbrev internal_stringslite_HasSuffix : Nat := 68
abbrev laws_eqValueS : Nat := 69
abbrev laws_eqStringS : Nat := 70
abbrev laws_eqDir : Nat := 71
abbrev laws_szArgS : Nat := 72
abbrev laws_toArgS : Nat := 73
abbrev internal_stringslite_CutSuffix : Nat := 74
abbrev laws_eqArgS : Nat := 75
abbrev laws_szArg : Nat := 76
abbrev laws_toArg : Nat := 77
abbrev laws_eqArg : Nat := 78
abbrev runtime_boundsError_Error : Nat := 79
abbrev runtime_boundsError_RuntimeError : Nat := 80
abbrev runtime_errorString_Error : Nat := 81
abbrev runtime_errorString_RuntimeError : Nat := 82
abbrev runtime_plainError_Error : Nat := 83
abbrev runtime_plainError_RuntimeError : Nat := 84
abbrev runtime_errorAddressString_Error : Nat := 85
abbrev runtime_errorAddressString_RuntimeError : Nat := 86
abbrev runtime_TypeAssertionError_Error : Nat := 87
abbrev runtime_TypeAssertionError_RuntimeError : Nat := 88
abbrev runtime_PanicNilError_Error : Nat := 89
abbrev runtime_PanicNilError_RuntimeError : Nat := 90
abbrev internal_abi_Type_Align : Nat := 91
abbrev internal_runtime_maps_unhashableTypeError_Error : Nat := 92
abbrev internal_runtime_maps_unhashableTypeError_RuntimeError : Nat := 93
abbrev internal_abi_Kind_String : Nat := 94
end F
namespace T
abbrev t0 : Nat := 0
abbrev t1 : Nat := 1
abbrev int64 : Nat := 2
abbrev int : Nat := 3
abbrev bool : Nat := 4
abbrev uint8 : Nat := 5
abbrev internal_abi_BoundsErrorCode : Nat := 6
abbrev t7 : Nat := 7
abbrev runtime_boundsError : Nat := 8
abbrev string : Nat := 9
abbrev runtime_errorString : Nat := 10
abbrev runtime_plainError : Nat := 11
abbrev uintptr : Nat := 12
abbrev t13 : Nat := 13
abbrev runtime_errorAddressString : Nat := 14
abbrev t15 : Nat := 15
abbrev t16 : Nat := 16
abbrev t17 : Nat := 17
abbrev t18 : Nat := 18
abbrev internal_runtime_maps_unhashableTypeError : Nat := 19
abbrev t20 : Nat := 20
abbrev int32 : Nat := 21
abbrev t22 : Nat := 22
abbrev t23 : Nat := 23
abbrev t24 : Nat := 24
abbrev t25 : Nat := 25
abbrev t26 : Nat := 26
abbrev t27 : Nat := 27
abbrev t28 : Nat := 28
abbrev t29 : Nat := 29
abbrev t30 : Nat := 30
abbrev t31 : Nat := 31
abbrev t32 : Nat := 32
abbrev t33 : Nat := 33
abbrev t34 : Nat := 34
abbrev t35 : Nat := 35
abbrev t36 : Nat := 36
abbrev t37 : Nat := 37
abbrev t38 : Nat := 38
abbrev t39 : Nat := 39
abbrev laws_Change : Nat := 40
abbrev t41 : Nat := 41
abbrev impl_Change : Nat := 42
abbrev t43 : Nat := 43
abbrev t44 : Nat := 44
abbrev t45 : Nat := 45
abbrev t46 : Nat := 46
abbrev t47 : Nat := 47
abbrev t48 : Nat := 48
abbrev t49 : Nat := 49
abbrev t50 : Nat := 50
abbrev laws_Type : Nat := 51
abbrev t52 : Nat := 52
abbrev t53 : Nat := 53
abbrev t54 : Nat := 54
abbrev laws_Value : Nat := 55
abbrev t56 : Nat := 56
abbrev t57 : Nat := 57
abbrev laws_InDef : Nat := 58
abbrev impl_Type : Nat := 59
abbrev t60 : Nat := 60
abbrev t61 : Nat := 61
abbrev impl_Value : Nat := 62
abbrev t63 : Nat := 63
abbrev t64 : Nat := 64
abbrev impl_InDef : Nat := 65
abbrev t66 : Nat := 66
abbrev t67 : Nat := 67
abbrev t68 : Nat := 68
abbrev t69 : Nat := 69
abbrev t70 : Nat := 70
abbrev t71 : Nat := 71
abbrev t72 : Nat := 72
abbrev impl_changes : Nat := 73
abbrev t74 : Nat := 74
abbrev t75 : Nat := 75
abbrev t76 : Nat := 76
abbrev t77 : Nat := 77
abbrev t78 : Nat := 78
abbrev t79 : Nat := 79
abbrev t80 : Nat := 80
abbrev t81 : Nat := 81
abbrev t82 : Nat := 82
abbrev t83 : Nat := 83
abbrev t84 : Nat := 84
abbrev t85 : Nat := 85
abbrev t86 : Nat := 86
abbrev t87 : Nat := 87
abbrev t88 : Nat := 88
abbrev t89 : Nat := 89
abbrev t90 : Nat := 90
abbrev t91 : Nat := 91
abbrev t92 : Nat := 92
abbrev t93 : Nat := 93
abbrev t94 : Nat := 94
abbrev t95 : Nat := 95
abbrev t96 : Nat := 96
abbrev t97 : Nat := 97
abbrev impl_Dir : Nat := 98
abbrev t99 : Nat := 99
abbrev t100 : Nat := 100
abbrev t101 : Nat := 101
abbrev t102 : Nat := 102
abbrev t103 : Nat := 103
abbrev laws_Dir : Nat := 104
abbrev t105 : Nat := 105
abbrev t106 : Nat := 106
abbrev t107 : Nat := 107
abbrev t108 : Nat := 108
abbrev t109 : Nat := 109
abbrev t110 : Nat := 110
abbrev t111 : Nat := 111
abbrev t112 : Nat := 112
abbrev impl_Arg : Nat := 113
abbrev t114 : Nat := 114
abbrev t115 : Nat := 115
abbrev t116 : Nat := 116
abbrev t117 : Nat := 117
abbrev t118 : Nat := 118
abbrev laws_Arg : Nat := 119
abbrev t120 : Nat := 120
abbrev t121 : Nat := 121
abbrev t122 : Nat := 122
abbrev t123 : Nat := 123
abbrev runtime_TypeAssertionError : Nat := 124
abbrev t125 : Nat := 125
abbrev t126 : Nat := 126
abbrev runtime_PanicNilError : Nat := 127
abbrev t128 : Nat := 128
abbrev uint32 : Nat := 129
abbrev internal_abi_TFlag : Nat := 130
abbrev internal_abi_Kind : Nat := 131
abbrev t132 : Nat := 132
abbrev t133 : Nat := 133
abbrev internal_abi_NameOff : Nat := 134
abbrev internal_abi_TypeOff : Nat := 135
abbrev t136 : Nat := 136
abbrev internal_abi_Type : Nat := 137
abbrev t138 : Nat := 138
end T
end Go.Vs
end
section
open Go Go.Vs Go.Proofs
namespace Go.Vs
def Hs : FuncId → Hints := fun f => match f with
  | 3 => Tab.hints ⟨[[], [], [], [], [], [3, 4], [2], [2, 3], [], [], [], [], [], [0], [], [], [], [], [], [], [], [], [], [], [0, 3, 4], [0, 1], [], [], [0], [], [], [], [], []], [[], [], [], [], [], [], [], [], [], [], [], [], [], [2], [], [], [], [2], [], [2], [], [], [], [], [], [], [], [], [2], [], [], [], [], []], [[], [], [], [], [], [], [], [], [], [], [], [], [], [], [], [], [], [], [], [], [], [], [], [], [], [], [], [], [], [], [], [], [], []], [], [], [[4], [], [13, 14, 15], [5, 16], [], [18, 19, 20, 21], [22, 23], [24, 25, 26], [27, 28, 29], [], [31, 32, 33, 34], [], [], [7, 36, 37, 38], [9, 39, 40, 41, 42, 43, 44, 45], [], [], [47, 48, 49], [], [50, 51, 52], [53], [], [11, 55, 56], [], [0, 1, 58, 59, 60, 61], [6, 12, 62, 63, 64], [], [], [8, 66, 67, 68], [69], [], [10, 11, 71, 72], [], []], [[], [], [], [], [], [], [], [], [], [], [], [], [], [], [], [], [], [], [], [], [], [], [], [], [], [], [], [], [], [], [], [], [], []], [(17, ([17, 0, 1], [])), (30, ([30, 7, 8, 6, 1, 0], [])), (35, ([35, 0, 1, 6, 8, 7], [])), (46, ([46, 8, 6, 1, 0], [])), (54, ([54, 0, 1, 6, 10, 8, 11], [])), (57, ([57, 8, 10, 6, 1, 0], [])), (65, ([65, 10, 8], [])), (70, ([70, 10, 11], [])), (73, ([73], []))], [(17, ([17], [])), (30, ([30], [])), (35, ([35], [])), (46, ([46], [])), (54, ([54], [])), (57, ([57], [])), (65, ([65], [])), (70, ([70], [])), (73, ([73], []))]⟩
  | 4 => Tab.hints ⟨[[], [], [], [], [], [], [], [], [], [], [5, 6], [2], [2], [4], [], [], [], [], [], [], [], [0], [0], [], [], [], [], [], [], [], [], [], [], [1, 3, 6], [0, 1], [], [], [0], [], [], [], [], []], [[], [], [], [], [], [], [], [], [], [], [], [], [], [], [], [], [], [], [], [], [], [2], [2], [], [], [], [2], [], [2], [], [], [], [], [], [], [], [], [2], [], [], [], [], []], [[], [], [], [], [], [], [], [], [], [], [], [], [], [], [], [], [], [], [], [], [], [], [], [], [], [], [], [], [], [], [], [], [], [], [], [], [], [], [], [], [], [], []], [], [], [[6], [16, 17], [], [], [19, 20, 21], [22], [], [24, 25, 26], [7, 27], [], [29, 30, 31, 32, 33, 34], [35, 36], [37, 38], [39, 40, 41, 42], [43, 44, 45], [], [47, 48, 49, 50], [], [52, 53, 54, 55], [], [], [9, 57, 58, 59], [10, 60, 61, 62], [12, 63, 64, 65, 66, 67, 68, 69], [], [], [71, 72, 73], [], [74, 75, 76], [77], [], [14, 79, 80], [], [0, 1, 2, 82, 83, 84, 85, 86, 87], [8, 15, 88, 89, 90], [], [], [11, 92, 93, 94], [95], [], [13, 14, 97, 98], [], []], [[], [], [], [], [], [], [], [], [], [], [], [], [], [], [], [], [], [], [], [], [], [], [], [], [], [], [], [], [], [], [], [], [], [], [], [], [], [], [], [], [], [], []], [(18, ([18, 2, 1, 0], [])), (23, ([23, 0, 1, 2, 7], [])), (28, ([28, 2, 1, 0], [])), (46, ([46, 0, 1, 2, 8, 11, 10, 9], [])), (51, ([51, 9, 10, 11, 8, 2, 1, 0], [])), (56, ([56, 0, 1, 2, 8, 11, 10, 9], [])), (70, ([70, 11, 8, 2, 1, 0], [])), (78, ([78, 0, 1, 2, 8, 13, 11, 14], [])), (81, ([81, 11, 13, 8, 2, 1, 0], [])), (91, ([91, 13, 11], [])), (96, ([96, 13, 14], [])), (99, ([99], []))], [(18, ([18], [])), (23, ([23], [])), (28, ([28], [])), (46, ([46], [])), (51, ([51], [])), (56, ([56], [])), (70, ([70], [])), (78, ([78], [])), (81, ([81], [])), (91, ([91], [])), (96, ([96], [])), (99, ([99], []))]⟩
  | 5 => Tab.hints ⟨[[], [], [], [], [], [], [], [], [], [], []], [[], [], [], [], [], [], [], [], [], [], []], [[], [], [], [], [], [], [], [], [], [], []], [(0, [2, 3, 4, 6, 7, 8, 9, 10, 11, 12, 13, 14, 15, 16, 17, 18, 19, 20, 21, 22, 23, 24, 25, 26])], [], [[4], [6, 7, 8, 9], [10], [], [], [12, 13, 14], [16, 17], [18, 19, 20, 21, 22, 23], [24], [], [1, 26]], [[], [], [], [], [], [], [], [], [], [], []], [(11, ([11, 0, 1], [])), (15, ([15], [])), (25, ([25, 0, 1, 5], []))], [(11, ([11], [])), (15, ([15, 0, 5], [])), (25, ([25], []))]⟩
  | 6 => Tab.hints ⟨[[0], [1], [], [], [], [], [0, 7], [0, 1]], [[], [], [], [], [], [], [], []], [[], [], [], [], [], [], [], []], [(0, [2, 3, 4, 7, 8, 9, 10, 11, 12, 13, 14, 15, 16, 17, 18, 19, 20, 21, 22, 23, 24, 25, 26, 27, 28, 29])], [], [[4], [7], [], [8, 9, 10], [12, 13], [14, 15, 16, 17, 18, 19, 20], [22, 23, 24, 25, 26, 27, 28], [5, 29]], [[], [], [], [], [], [], [], []], [(11, ([11], [])), (21, ([21], []))], [(11, ([11, 6, 0, 1], [])), (21, ([21], []))]⟩
  | 7 => Tab.hints ⟨[[0], [3], [], [], [], [], [0, 1]], [[], [], [], [], [], [], []], [[], [], [], [], [], [], []], [(0, [1, 2, 5, 6, 7, 8, 9, 10, 11, 12, 13, 14, 15, 16, 17, 18, 19, 20, 21, 22])], [], [[2], [5, 6, 7], [], [8, 9, 10], [12, 13], [14, 15, 16, 17, 18, 19, 20, 21], [3, 22]], [[], [7], [], [], [], [], []], [(11, ([11], []))], [(11, ([11, 4, 0], []))]⟩
  | 8 => Tab.hints ⟨[[1], [0, 1, 3, 4]], [[], [3]], [[], []], [], [], [[1, 4], [0, 3, 5, 6, 7, 8]], [[], [3]], [], []⟩
  | 9 => Tab.hints ⟨[[], [], [], [], [], [], [], [], []], [[], [], [], [], [], [], [], [], []], [[], [], [], [], [], [], [], [], []], [(0, [2, 3, 4, 6, 7, 8, 9, 10, 11, 12, 13, 14, 15, 16, 17, 18, 19, 20, 21, 22, 23, 24, 25, 26])], [], [[4], [6, 7, 8, 9], [], [], [11, 12, 13], [15, 16], [17, 18, 19, 20, 21, 22, 23, 24, 25], [], []], [[], [], [], [], [], [], [], [], []], [(10, ([10, 0, 1], [])), (14, ([14], [])), (26, ([26, 0, 1, 5], []))], [(10, ([10], [])), (14, ([14, 0, 1, 5], [])), (26, ([26], []))]⟩
  | 10 => Tab.hints ⟨[[], [], [], [], [], [], [], [], [], [], []], [[], [], [], [], [], [], [], [], [], [], []], [[], [], [], [], [], [], [], [], [], [], []], [(0, [2, 3, 4, 6, 7, 8, 9, 10, 11, 12, 13, 14, 15, 16, 17, 18, 19, 20, 21, 22, 23, 24, 25, 26, 27, 28, 29, 30, 31, 32, 33, 34, 35])], [], [[4], [], [6, 7, 8], [10, 11], [12, 13, 14, 15, 16], [17, 18], [19, 20, 21, 22, 23, 24], [25, 26], [27, 28, 29, 30, 31, 32], [33, 34], [1, 35]], [[], [], [], [], [], [], [], [], [], [], []], [(9, ([9], []))], [(9, ([9, 5, 0], []))]⟩
  | 11 => Tab.hints ⟨[[], [], [], [], [], [], [], [], [], [], [], [], [], []], [[], [], [], [], [], [], [], [], [], [], [], [], [], []], [[], [], [], [], [], [], [], [], [], [], [], [], [], []], [(0, [2, 3, 4, 6, 7, 8, 9, 10, 11, 12, 13, 14, 15, 16, 17, 18, 19, 20, 21, 22, 23, 24, 25, 26, 27, 28, 29, 30, 31, 32, 33, 34, 35, 36, 37, 38, 39, 40, 41])], [], [[4], [], [6, 7, 8], [10, 11], [12, 13, 14, 15, 16, 17], [], [19, 20], [21, 22, 23, 24, 25, 26, 27], [], [29, 30], [31, 32, 33, 34, 35, 36, 37], [], [39, 40], [1, 41]], [[], [], [], [], [], [], [], [], [], [], [], [], [], []], [(9, ([9], [])), (18, ([18, 0, 5, 1], [])), (28, ([28, 5, 0, 1], [])), (38, ([38, 0, 5, 1], []))], [(9, ([9, 0, 5], [])), (18, ([18], [])), (28, ([28], [])), (38, ([38], []))]⟩
  | 12 => Tab.hints ⟨[[], [], [], [], [], [], [], [], [], [], []], [[], [], [], [], [], [], [], [], [], [], []], [[], [], [], [], [], [], [], [], [], [], []], [(0, [2, 3, 4, 6, 7, 8, 9, 10, 11, 12, 13, 14, 15, 16, 17, 18, 19, 20, 21, 22, 23, 24, 25, 26])], [], [[4], [6, 7, 8, 9], [10], [], [], [12, 13, 14], [16, 17], [18, 19, 20, 21, 22, 23], [24], [], [1, 26]], [[], [], [], [], [], [], [], [], [], [], []], [(11, ([11, 0, 1], [])), (15, ([15], [])), (25, ([25, 0, 1, 5], []))], [(11, ([11], [])), (15, ([15, 0, 5], [])), (25, ([25], []))]⟩
  | 13 => Tab.hints ⟨[[0], [1], [], [], [], [], [], [], [0, 7], [], [], [], [], [], [0, 8], [], [0, 7], [], [0, 7], [], [], [], [], [], [], [], [0, 11], [0, 1]], [[], [], [], [], [], [], [], [], [], [], [], [], [], [], [], [], [], [], [], [], [], [], [], [], [], [], [], []], [[], [], [], [], [], [], [], [], [], [], [], [], [], [], [], [], [], [], [], [], [], [], [], [], [], [], [], []], [(0, [3, 4, 5, 6, 9, 10, 11, 12, 13, 14, 15, 16, 17, 18, 19, 20, 21, 22, 23, 24, 25, 26, 27, 28, 29, 30, 31, 32, 33, 34, 35, 36, 37, 38, 39, 40, 41, 42, 43, 44, 45, 46, 47, 48, 49, 50, 51, 52, 53, 54, 55, 56, 57, 58, 59, 60, 61, 62, 63, 64, 65, 66, 67, 68, 69, 70, 71, 72, 73, 74, 75, 76, 77, 78, 79, 80, 81, 82, 83, 84, 85, 86, 87, 88, 89, 90, 91, 92, 93, 94, 95, 96, 97, 98, 99, 100, 101, 102, 103, 104, 105, 106, 107, 108, 109, 110, 111, 112, 113, 114, 115, 116, 117, 118, 119, 120, 121, 122, 123, 124, 125, 126, 127, 128, 129, 130, 131, 132, 133, 134, 135, 136, 137, 138, 139, 140, 141]), (3, [3, 4, 5, 6, 8, 9, 10, 11, 12, 14, 15, 16, 17, 18, 19, 20, 21, 22, 23, 24, 25, 26, 27, 28, 29, 30, 31, 32, 33, 34, 35, 36, 37, 38, 39, 40, 41, 42, 43, 44, 45, 46, 47, 48, 49, 50, 51, 52, 53, 54, 55, 56, 57, 58, 59, 60, 61, 62, 63, 64, 65, 66, 67, 68, 69, 70, 71, 72, 73, 74, 75, 76, 77, 78, 79, 80, 81, 82, 83, 84, 85, 86, 87, 88, 89, 90, 91, 92, 93, 94, 95, 96, 97, 98, 99, 100, 101, 102, 103, 104, 105, 106, 107, 108, 109, 110, 111, 112, 113, 114, 115, 116, 117, 118, 119, 120, 121, 122, 123, 124, 125, 126, 127, 128, 129, 130, 131, 132, 133, 134, 135, 136, 137, 138, 139, 140, 141])], [(0, [9, 11])], [[6], [15], [], [16, 17, 18], [20, 21], [22, 23, 24, 25], [26, 27, 28, 29], [30], [9, 32, 33, 34, 35, 36, 37, 38], [10, 39, 40, 41, 42], [43, 44, 45, 46], [], [48, 49, 50, 51], [], [12, 53, 54, 55, 56, 57, 58, 59, 60], [62, 63, 64, 65, 66, 67, 68, 69, 70, 71, 72, 73], [9, 74, 75, 76, 77, 78, 79, 80], [11, 82, 83, 84, 85, 86, 87, 88, 89, 90, 91, 92, 93, 94], [9, 95, 96, 97, 98, 99, 100, 101], [], [102, 103, 104], [106, 107], [108, 109, 110, 111, 112, 113, 114], [], [116, 117, 118, 119, 120, 121, 122, 123, 124, 125, 126, 127, 128], [], [14, 130, 131, 132, 133, 134, 135, 136, 137, 138, 139, 140], [7, 141]], [[], [], [], [], [], [], [], [], [9], [], [], [], [], [], [], [], [9], [11], [9], [], [], [], [], [], [], [], [], []], [(19, ([19], [])), (31, ([31, 10], [])), (47, ([47], [])), (52, ([52, 12], [])), (61, ([61, 11], [11])), (81, ([81], [])), (105, ([105], [])), (115, ([115], [])), (129, ([129, 14], []))], [(19, ([19, 8], [])), (31, ([31], [])), (47, ([47], [])), (52, ([52], [])), (61, ([61], [])), (81, ([81, 9], [9])), (105, ([105, 13, 0, 2, 1], [])), (115, ([115], [])), (129, ([129], []))]⟩
  | 14 => Tab.hints ⟨[[0], [3], [], [], [], [], [0, 1]], [[], [], [], [], [], [], []], [[], [], [], [], [], [], []], [(0, [1, 2, 5, 6, 7, 8, 9, 10, 11, 12, 13, 14, 15, 16, 17, 18, 19, 20, 21, 22])], [], [[2], [5, 6, 7], [], [8, 9, 10], [12, 13], [14, 15, 16, 17, 18, 19, 20, 21], [3, 22]], [[], [7], [], [], [], [], []], [(11, ([11], []))], [(11, ([11, 4, 0], []))]⟩
  | 15 => Tab.hints ⟨[[0], [0], [], [], [], [], [], [], [], [], [], [], [], [], [], [], [0], [], [], [], [], [], [], [], [4]], [[], [], [], [], [], [], [], [4], [], [], [13], [12], [], [5], [21], [], [], [], [], [], [], [5], [6], [], []], [[], [], [], [], [], [], [], [], [], [], [], [], [], [], [], [], [], [], [], [], [], [], [], [], []], [(0, [3, 4, 5, 6, 8, 9, 10, 11, 12, 13, 14, 15, 16, 17, 18, 22, 23, 24, 25, 26, 27, 28, 29, 30, 31, 32, 33, 34, 35, 36, 37, 38, 39, 40, 41, 42, 43, 44, 45, 46, 47, 48, 49, 50, 51, 52, 53, 54, 55, 56, 57, 58, 59, 60, 61, 62, 63, 64, 65, 66, 67, 68, 69, 70, 71, 72, 73, 74, 75, 76, 77, 78, 79, 80, 81, 82, 83, 84, 85, 86, 87, 88, 89, 90, 91, 92, 93, 94, 95, 96, 97, 98, 99, 100, 101, 102, 103, 104, 105, 106, 107, 108, 109, 110, 111, 112, 113, 114, 115, 116, 117, 118, 119, 120, 121, 122, 123, 124, 125, 126, 127, 128, 129, 130, 131, 132, 133, 134, 135, 136, 137, 138, 139, 140, 141, 142, 143, 144, 145, 146, 147, 148, 149]), (2, [2, 3, 4, 5, 6, 8, 9, 10, 11, 12, 13, 14, 15, 16, 17, 18, 19, 20, 21, 22, 23, 24, 25, 26, 27, 28, 29, 30, 31, 32, 33, 34, 35, 36, 37, 38, 39, 40, 41, 42, 43, 44, 45, 46, 47, 48, 49, 50, 51, 52, 53, 54, 55, 56, 57, 58, 59, 60, 61, 62, 63, 64, 65, 66, 67, 68, 69, 70, 71, 72, 73, 74, 75, 76, 77, 78, 79, 80, 81, 82, 83, 84, 85, 86, 87, 88, 89, 90, 91, 92, 93, 94, 95, 96, 97, 98, 99, 100, 101, 102, 103, 104, 105, 106, 107, 108, 109, 110, 111, 112, 116, 117, 118, 119, 120, 121, 122, 123, 124, 125, 126, 127, 128, 129, 130, 131, 132, 133, 134, 135, 136, 137, 138, 139, 140, 141, 142, 143, 144, 145, 146, 147, 148, 149])], [(0, [9, 11]), (2, [15])], [[6], [17, 18], [], [], [23, 24], [25, 26, 27, 28], [29], [9, 31, 32, 33, 34, 35], [10, 36, 37, 38, 39], [40, 41, 42, 43, 44], [45, 46, 47, 48, 49, 50, 51, 52, 53, 54, 55, 56, 57, 58], [12, 59, 60, 61, 62, 63, 64, 65, 66, 67, 68, 69, 70, 71], [72, 73, 74, 75, 76, 77, 78, 79, 80, 81, 82, 83], [84, 85, 86, 87, 88, 89], [9, 11, 13, 90, 91, 92, 93, 94, 95, 96, 97, 98, 99, 100, 101, 102, 103, 104, 105, 106, 107, 108, 109, 110, 111], [112], [2], [], [117, 118], [119, 120, 121, 122], [124, 125, 126, 127, 128, 129, 130, 131], [132, 133, 134, 135, 136, 137], [15, 16, 138, 139, 140, 141, 142, 143, 144], [145], [7, 146, 147, 148, 149]], [[], [18], [], [], [], [], [], [9], [], [], [], [], [], [], [9, 11], [], [], [], [], [], [], [], [15], [], []], [(22, ([22], [])), (30, ([30, 10], [])), (116, ([116], [])), (123, ([123, 15], [15]))], [(22, ([22, 21, 19, 20], [])), (30, ([30], [])), (116, ([116, 115, 0, 1, 113, 114], [])), (123, ([123], []))]⟩
  | 16 => Tab.hints ⟨[[], [], [], [], [], [], [], [], []], [[], [], [], [], [], [], [], [], []], [[], [], [], [], [], [], [], [], []], [(0, [2, 3, 4, 6, 7, 8, 9, 10, 11, 12, 13, 14, 15, 16, 17, 18, 19, 20, 21, 22, 23, 24, 25, 26])], [], [[4], [6, 7, 8, 9], [], [], [11, 12, 13], [15, 16], [17, 18, 19, 20, 21, 22, 23, 24, 25], [], []], [[], [], [], [], [], [], [], [], []], [(10, ([10, 0, 1], [])), (14, ([14], [])), (26, ([26, 0, 1, 5], []))], [(10, ([10], [])), (14, ([14, 0, 1, 5], [])), (26, ([26], []))]⟩
  | 17 => Tab.hints ⟨[[], [], [], [], [], [], [], [], [], [], [], [], [], [], [], [], [], [], [], [], [], []], [[], [], [], [], [], [], [], [], [], [], [], [], [], [], [], [], [], [], [], [], [], []], [[], [], [], [], [], [], [], [], [], [], [], [], [], [], [], [], [], [], [], [], [], []], [(0, [2, 3, 4, 6, 7, 8, 9, 10, 11, 12, 13, 14, 15, 16, 17, 18, 19, 20, 21, 22, 23, 24, 25, 26, 27, 28, 29, 30, 31, 32, 33, 34, 35, 36, 37, 38, 39, 40, 41, 42, 43, 44, 45, 46, 47, 48, 49, 50, 51, 52, 53, 54, 55, 56, 57, 58, 59, 60, 61, 62, 63, 64, 65, 66, 67, 68, 69, 70, 71, 72, 73, 74, 75, 76, 77, 78, 79, 80, 81, 82, 83, 84, 85, 86, 87, 88, 89, 90, 91, 92, 93, 94, 95])], [], [[4], [], [6, 7, 8], [10, 11], [12, 13, 14, 15, 16, 17], [18, 19], [20, 21, 22, 23, 24, 25], [26, 27], [28, 29, 30, 31, 32, 33, 34], [35, 36], [37, 38, 39, 40, 41, 42, 43], [44, 45], [46, 47, 48, 49, 50, 51, 52], [53, 54], [55, 56, 57, 58, 59, 60], [61, 62], [63, 64, 65, 66, 67, 68, 69], [70, 71], [72, 73, 74, 75, 76, 77, 78, 79], [80, 81, 82, 83, 84, 85, 86, 87], [88, 89, 90, 91, 92, 93, 94], [1, 95]], [[], [], [], [], [], [], [], [], [], [], [], [], [], [], [], [], [], [], [], [], [], []], [(9, ([9], []))], [(9, ([9, 5, 0], []))]⟩
  | 18 => Tab.hints ⟨[[], [], [], [], [], [], [], []], [[], [], [], [], [], [], [], []], [[], [], [], [], [], [], [], []], [], [], [[0, 4], [5, 6, 7, 8, 9], [10], [], [2, 12, 13, 14, 15, 16], [17], [], [1, 19]], [[], [], [], [], [2], [], [], []], [(11, ([11, 2, 1], [2])), (18, ([18, 1], []))], [(11, ([11], [])), (18, ([18], []))]⟩
  | 19 => Tab.hints ⟨[[], [], [], [], [], [], [], []], [[], [], [], [], [], [], [], []], [[], [], [], [], [], [], [], []], [], [], [[2], [4, 5, 6], [], [8, 9], [], [0, 11, 12], [], []], [[], [], [], [], [], [], [], []], [(3, ([3, 0], [])), (7, ([7, 0], [])), (10, ([10], []))], [(3, ([3], [])), (7, ([7], [])), (10, ([10], []))]⟩
  | 20 => Tab.hints ⟨[[], [], [], [], [], []], [[], [], [], [], [], []], [[], [], [], [], [], []], [], [], [[0], [], [4, 5, 6], [7, 8, 9], [1, 10, 11, 12], [3, 13]], [[], [], [], [], [1], [3]], [], []⟩
  | 21 => Tab.hints ⟨[[0], [], [], [0, 1], [], [], [], [], [], [], [], [], [0, 3]], [[], [2], [], [], [], [], [], [], [2], [], [], [], []], [[], [], [], [], [], [], [], [], [], [], [], [], []], [(0, [2, 3, 4, 7, 8, 9, 10, 11, 12, 13, 14, 15, 16, 17, 18, 19, 20, 21, 22, 23, 24, 25, 26, 27, 28, 29, 30, 31, 32, 33, 34, 35, 36, 37, 38, 39, 40, 41])], [(0, [7])], [[4], [8, 9, 10], [11], [0, 13], [14, 15], [16, 17, 18], [20, 21], [22, 23, 24, 25], [26, 27, 28], [7, 30, 31, 32, 33], [34, 35], [36, 37, 38], [0, 5, 39, 40, 41]], [[], [], [], [], [], [], [], [], [], [7], [], [], []], [(12, ([12, 1, 5], [])), (19, ([19], [])), (29, ([29], []))], [(12, ([12], [])), (19, ([19, 6, 1], [])), (29, ([29, 7], [7]))]⟩
  | 22 => Tab.hints ⟨[[0], [], [0], [1, 3]], [[], [], [], []], [[], [], [], []], [], [], [[2], [3], [], [0, 5, 6, 7]], [[], [], [], []], [(4, ([4, 0], []))], [(4, ([4], []))]⟩
  | 23 => Tab.hints ⟨[[], []], [[], []], [[], []], [], [], [[0, 3], [1, 2, 4, 5, 6, 7, 8]], [[], [2]], [], []⟩
  | 24 => Tab.hints ⟨[[], [], [], [], [], [], [], []], [[], [], [], [], [], [], [], []], [[], [], [], [], [], [], [], []], [], [], [[2], [4, 5], [], [7, 8], [], [0, 10, 11], [], []], [[], [], [], [], [], [], [], []], [(3, ([3, 0], [])), (6, ([6, 0], [])), (9, ([9], []))], [(3, ([3], [])), (6, ([6], [])), (9, ([9], []))]⟩
  | 25 => Tab.hints ⟨[[], [], [], [], [], [], [], []], [[], [], [], [], [], [], [], []], [[], [], [], [], [], [], [], []], [], [], [[0, 1, 4], [5, 6, 7, 8], [], [10, 11, 12, 13], [], [2, 3, 15, 16, 17, 18], [], []], [[], [], [], [], [], [2, 3], [], []], [(9, ([9, 2, 3], [2, 3])), (14, ([14, 3, 2], [2, 3])), (19, ([19], []))], [(9, ([9], [])), (14, ([14], [])), (19, ([19], []))]⟩
  | 26 => Tab.hints ⟨[[], [], [], [], [], [], [], []], [[], [], [], [], [], [], [], []], [[], [], [], [], [], [], [], []], [(0, [1, 2, 4, 5, 6, 7, 8, 9, 10, 11, 12, 13, 14, 15, 16, 17, 18, 19])], [], [[2], [4], [], [], [6], [8, 9, 10, 11, 12, 13, 14, 15], [16, 17], [3, 18, 19]], [[], [], [], [], [], [], [], []], [(5, ([5, 0], [])), (7, ([7], []))], [(5, ([5], [])), (7, ([7, 0], []))]⟩
  | 27 => Tab.hints ⟨[[], [], [], [], [], [], [], [], [], [], [], [], [], [], [], [], []], [[], [], [], [], [], [], [], [], [], [], [], [], [], [], [], [], []], [[], [], [], [], [], [], [], [], [], [], [], [], [], [], [], [], []], [], [], [[0, 4], [5, 6, 7, 8, 9], [10], [], [12, 13, 14, 15, 16], [17], [], [19, 20, 21, 22], [23], [], [25, 26, 27, 28], [29], [], [2, 31, 32, 33, 34], [35], [], [1, 37]], [[], [], [], [], [], [], [], [], [], [], [], [], [], [2], [], [], []], [(11, ([11, 2, 1], [2])), (18, ([18, 2, 1], [2])), (24, ([24, 2, 1], [2])), (30, ([30, 1, 2], [2])), (36, ([36, 1], []))], [(11, ([11], [])), (18, ([18], [])), (24, ([24], [])), (30, ([30], [])), (36, ([36], []))]⟩
  | 28 => Tab.hints ⟨[[], [], [], [], [], [], []], [[], [], [], [], [], [], []], [[], [], [], [], [], [], []], [(0, [2, 3, 4, 6, 7, 8, 9, 10, 11, 12, 13, 14, 15, 16, 17, 18, 19])], [], [[4], [], [6, 7, 8], [10, 11], [12, 13, 14, 15, 16, 17], [5, 19], []], [[], [], [], [], [], [], []], [(9, ([9], [])), (18, ([18, 0, 1], []))], [(9, ([9, 0, 1, 5], [])), (18, ([18], []))]⟩
  | 29 => Tab.hints ⟨[[], [], [], [], [], [], [], [], [], [], [], [], [], []], [[], [], [], [], [], [], [], [], [], [], [], [], [], []], [[], [], [], [], [], [], [], [], [], [], [], [], [], []], [(0, [0, 1, 4, 5, 6, 7, 8, 9, 10, 11, 12, 13, 14, 15, 16, 17, 18, 19, 20, 21, 22, 23, 24, 25, 26, 27, 28, 29, 30, 31, 32, 33, 34, 35, 36, 37, 38, 39, 40, 41, 42, 43, 44, 45, 46, 47, 48, 49, 50, 51, 52, 53, 54, 55, 56, 57, 58, 59, 60, 61, 62, 63, 64, 65, 66, 67, 68, 69, 70, 71, 72, 73, 74, 75, 76, 77, 78, 79, 80, 81, 82, 83, 84, 85, 86, 87])], [], [[0, 1, 4], [7, 8, 9], [10, 11, 12], [2, 3, 5, 6, 13, 14, 15, 16, 17, 18, 19, 20, 21, 22, 23, 24, 25], [27, 28], [29, 30], [], [5, 32, 33, 34, 35, 36, 37], [6, 38, 39, 40, 41, 42, 43], [45, 46], [5, 47, 48, 49, 50, 51, 52], [54, 55, 56, 57, 58, 59, 60, 61, 62, 63, 64, 65, 66, 67, 68, 69, 70, 71, 72, 73, 74, 75], [5, 76, 77, 78, 79, 80, 81], [6, 82, 83, 84, 85, 86, 87]], [[], [], [], [2, 3], [], [], [], [], [], [], [], [], [], []], [(26, ([26], [])), (44, ([44, 6], [])), (53, ([53], [])), (31, ([31, 3, 2, 6, 5], [2, 3]))], [(26, ([26], [])), (44, ([44], [])), (53, ([53], [])), (31, ([31], []))]⟩
  | 30 => Tab.hints ⟨[[], []], [[], []], [[], []], [], [], [[0, 2], [1, 3, 4, 5, 6, 7, 8, 9, 10, 11, 12, 13, 14, 15, 16]], [[], [1]], [], []⟩
  | 31 => Tab.hints ⟨[[], [], [], [], [], [], [], [], [], [], [], [], [], []], [[], [], [], [], [], [], [], [], [], [], [], [], [], []], [[], [], [], [], [], [], [], [], [], [], [], [], [], []], [(0, [0, 1, 4, 6, 7, 8, 9, 10, 11, 12, 13, 14, 15, 16, 17, 18, 19, 20, 21, 22, 23, 24, 25, 26, 27, 28, 29, 30, 31, 32, 33, 34, 35, 36, 37, 38, 39, 40, 41, 42, 43, 44, 45, 46, 47, 48, 49, 50, 51, 52, 53, 54, 55, 56, 57, 58, 59, 60, 61, 62, 63, 64, 65, 66, 67, 68, 69, 70, 71, 72, 73]), (2, [0, 1, 4, 5, 7, 8, 9, 10, 11, 12, 13, 14, 15, 16, 17, 18, 19, 20, 21, 22, 23, 24, 25, 26, 27, 28, 29, 30, 31, 32, 33, 34, 35, 36, 37, 38, 39, 40, 41, 42, 43, 44, 45, 46, 47, 48, 49, 50, 51, 52, 53, 54, 55, 56, 57, 58, 59, 60, 61, 62, 63, 64, 65, 66, 67, 68, 69, 70, 71, 72, 73])], [], [[0, 1, 4], [7, 8, 9, 10, 11, 12, 13, 14, 15, 16, 17, 18, 19, 20, 21, 22, 23, 24, 25, 26, 27, 28, 29, 30, 31, 32, 33, 34, 35], [], [], [37, 38, 39, 40], [42, 43], [44, 45, 46, 47, 48, 49, 50, 51, 52, 53], [], [], [55, 56, 57, 58], [60, 61], [62, 63, 64, 65, 66, 67, 68, 69, 70, 71, 72], [], []], [[], [], [], [], [], [], [], [], [], [], [], [], [], []], [(36, ([36, 2, 3], [2, 3])), (41, ([41], [])), (54, ([54, 2, 3, 5], [2, 3])), (59, ([59], [])), (73, ([73, 2, 3, 6], [2, 3]))], [(36, ([36], [])), (41, ([41, 5], [])), (54, ([54], [])), (59, ([59, 2, 3, 6], [2, 3])), (73, ([73], []))]⟩
  | 32 => Tab.hints ⟨[[], [], [], [], [], [], [], [], []], [[], [], [], [], [], [], [], [], []], [[], [], [], [], [], [], [], [], []], [], [], [[0], [], [4, 5, 6], [7, 8, 9], [10, 11, 12, 13], [14, 15, 16], [17, 18, 19, 20], [1, 21, 22, 23, 24], [3, 25]], [[], [], [], [], [], [], [], [1], [3]], [], []⟩
  | 33 => Tab.hints ⟨[[], [0]], [[], [2]], [[], []], [], [], [[1, 4], [0, 3, 5, 6, 7]], [[], [3]], [], []⟩
  | 34 => Tab.hints ⟨[[], [4]], [[], []], [[], []], [], [], [[1], [0, 2, 3, 4, 11, 12, 13, 14, 15, 16, 17, 18, 19, 20, 21, 22, 23]], [[], []], [(10, ([10], []))], [(10, ([10, 0, 2, 3, 4], []))]⟩
  | 35 => Tab.hints ⟨[[], [], [], [], [], [], [], [], [], [], [], []], [[], [], [], [], [], [], [], [], [], [], [], []], [[], [], [], [], [], [], [], [], [], [], [], []], [], [], [[0, 1, 4], [11, 12, 13, 14, 15], [16, 17, 18, 19, 20], [8, 22], [5, 6, 7, 23, 24, 25, 26, 27, 28], [6, 30], [3, 5, 31, 32, 33], [34, 35, 36, 37, 38], [39, 40, 41, 42, 43], [9, 10, 44, 45, 46], [5, 7, 48, 49, 50], [2, 3, 51, 52, 53, 54, 55, 56, 57, 58, 59, 60, 61, 62, 63, 64, 65]], [[], [], [], [], [5, 7], [], [3, 5], [], [], [], [5, 7], [2, 3]], [(21, ([21, 3, 2], [2, 3])), (29, ([29, 7, 2], [2, 7])), (47, ([47, 3, 2], [2, 3]))], [(21, ([21], [])), (29, ([29], [])), (47, ([47, 5, 7], [5, 7]))]⟩
  | 36 => Tab.hints ⟨[[], []], [[], []], [[], []], [], [], [[0, 2], [1, 3, 4, 5]], [[], [1]], [], []⟩
  | 37 => Tab.hints ⟨[[], []], [[], [24]], [[], []], [], [], [[0, 1, 4], [2, 3, 5, 6, 7, 8, 9, 10, 11, 12, 13, 14, 15, 16, 17, 18, 19, 20, 21, 22, 23, 24, 25, 26, 27, 28, 29, 30]], [[], [2, 3]], [], []⟩
  | 38 => Tab.hints ⟨[[], [], [], [], [], [], [], [], [], [], [], [], [], []], [[], [], [], [], [], [], [], [], [], [], [], [], [], []], [[], [], [], [], [], [], [], [], [], [], [], [], [], []], [], [], [[0, 1, 4], [5, 6, 7, 8], [], [10, 11, 12, 13], [], [15, 16, 17, 18, 19], [], [21, 22, 23, 24], [], [26, 27, 28, 29, 30], [], [2, 3, 32, 33, 34, 35, 36], [], []], [[], [], [], [], [], [], [], [], [], [], [], [2, 3], [], []], [(9, ([9, 3, 2], [2, 3])), (14, ([14, 2, 3], [2, 3])), (20, ([20, 3, 2], [2, 3])), (25, ([25, 2, 3], [2, 3])), (31, ([31, 3, 2], [2, 3])), (37, ([37], []))], [(9, ([9], [])), (14, ([14], [])), (20, ([20], [])), (25, ([25], [])), (31, ([31], [])), (37, ([37], []))]⟩
  | 39 => Tab.hints ⟨[[], [], [], [], [], [], [], [], [], [], []], [[], [], [], [], [], [], [], [], [], [], []], [[], [], [], [], [], [], [], [], [], [], []], [(0, [2, 3, 4, 6, 7, 8, 9, 10, 11, 12, 13, 14, 15, 16, 17, 18, 19, 20, 21, 22, 23, 24, 25, 26, 27, 28, 29, 30, 31, 32, 33, 34, 35, 36, 37, 38, 39, 40, 41])], [], [[4], [], [6, 7, 8], [10, 11], [12, 13, 14, 15, 16], [17, 18], [19, 20, 21, 22, 23, 24], [25, 26], [27, 28, 29, 30, 31, 32, 33], [34, 35, 36, 37, 38, 39, 40], [1, 41]], [[], [], [], [], [], [], [], [], [], [], []], [(9, ([9], []))], [(9, ([9, 5, 0], []))]⟩
  | 40 => Tab.hints ⟨[[], [], [], [], [], [], []], [[], [], [], [], [], [], []], [[], [], [], [], [], [], []], [(0, [2, 3, 4, 6, 7, 8, 9, 10, 11, 12, 13, 14, 15, 16, 17, 18, 19])], [], [[4], [], [6, 7, 8], [10, 11], [12, 13, 14, 15, 16], [17, 18], [1, 19]], [[], [], [], [], [], [], []], [(9, ([9], []))], [(9, ([9, 5, 0], []))]⟩
  | 41 => Tab.hints ⟨[[], [], [], [], [], [], [], []], [[], [], [], [], [], [], [], []], [[], [], [], [], [], [], [], []], [(0, [2, 3, 4, 6, 7, 8, 9, 10, 11, 12, 13, 14, 15, 16, 17, 18, 19, 20, 21, 22, 23, 24, 25, 26, 27])], [], [[4], [], [6, 7, 8], [10, 11], [12, 13, 14, 15, 16, 17], [18, 19], [20, 21, 22, 23, 24, 25, 26], [1, 27]], [[], [], [], [], [], [], [], []], [(9, ([9], []))], [(9, ([9, 5, 0], []))]⟩
  | 42 => Tab.hints ⟨[[], []], [[], []], [[], []], [], [], [[6], [0, 1, 2, 7, 8, 9, 10, 11, 12, 13, 14]], [[], []], [], []⟩
  | 43 => Tab.hints ⟨[[], [], [], [], [], [], [], []], [[], [], [], [], [5], [], [], []], [[], [], [], [], [], [], [], []], [(0, [2, 3, 4, 5, 6, 9, 10, 11, 12, 13, 14, 15, 16, 17, 18])], [], [[4], [6], [], [10], [11, 12, 13, 14, 15], [5, 17], [18], []], [[], [], [], [], [], [], [], []], [(9, ([9], [])), (16, ([16, 7, 1, 0, 8], []))], [(9, ([9, 7, 1, 0, 8], [])), (16, ([16, 5], []))]⟩
  | 44 => Tab.hints ⟨[[], []], [[], []], [[], []], [], [], [[6], [0, 1, 2, 7, 8, 9, 10, 11, 12, 13, 14]], [[], []], [], []⟩
  | 45 => Tab.hints ⟨[[], [], [], [], [], [], [], []], [[], [], [], [], [], [], [], []], [[], [], [], [], [], [], [], []], [], [], [[0, 4], [5, 6, 7, 8, 9], [10], [], [2, 12, 13, 14, 15, 16], [17], [], [1, 19]], [[], [], [], [], [2], [], [], []], [(11, ([11, 2, 1], [2])), (18, ([18, 1], []))], [(11, ([11], [])), (18, ([18], []))]⟩
  | 46 => Tab.hints ⟨[[], [], [], [], [], [], [], [], [], [], []], [[], [], [], [], [], [], [], [], [], [], []], [[], [], [], [], [], [], [], [], [], [], []], [], [], [[0, 4], [5, 6, 7, 8, 9], [10], [], [12, 13, 14, 15], [16], [], [2, 18, 19, 20, 21], [22], [], [1, 24]], [[], [], [], [], [], [], [], [2], [], [], []], [(11, ([11, 2, 1], [2])), (17, ([17, 1, 2], [2])), (23, ([23, 1], []))], [(11, ([11], [])), (17, ([17], [])), (23, ([23], []))]⟩
  | 47 => Tab.hints ⟨[[], [], [], [], [], [], [], [], [], [], []], [[], [], [], [], [], [], [], [], [], [], []], [[], [], [], [], [], [], [], [], [], [], []], [(0, [2, 3, 4, 6, 7, 8, 9, 10, 11, 12, 13, 14, 15, 16, 17, 18, 19, 20, 21, 22, 23, 24, 25, 26])], [], [[4], [6, 7, 8, 9], [10], [], [], [12, 13, 14], [16, 17], [18, 19, 20, 21, 22, 23], [24], [], [1, 26]], [[], [], [], [], [], [], [], [], [], [], []], [(11, ([11, 0, 1], [])), (15, ([15], [])), (25, ([25, 0, 1, 5], []))], [(11, ([11], [])), (15, ([15, 0, 5], [])), (25, ([25], []))]⟩
  | 48 => Tab.hints ⟨[[], [], [], [], []], [[], [], [], [], []], [[], [], [], [], []], [], [], [[0], [], [4, 5, 6], [1, 7, 8, 9], [3, 10]], [[], [], [], [1], [3]], [], []⟩
  | 49 => Tab.hints ⟨[[], [], [], [], [], [], []], [[], [], [], [], [], [], []], [[], [], [], [], [], [], []], [], [], [[0], [], [4, 5, 6], [7, 8, 9], [10, 11, 12, 13], [1, 14, 15, 16, 17], [3, 18]], [[], [], [], [], [], [1], [3]], [], []⟩
  | 50 => Tab.hints ⟨[[0], [3], [], [], [], [], [0, 1]], [[], [], [], [], [], [], []], [[], [], [], [], [], [], []], [(0, [1, 2, 5, 6, 7, 8, 9, 10, 11, 12, 13, 14, 15, 16, 17, 18, 19, 20, 21, 22])], [], [[2], [5, 6, 7], [], [8, 9, 10], [12, 13], [14, 15, 16, 17, 18, 19, 20, 21], [3, 22]], [[], [7], [], [], [], [], []], [(11, ([11], []))], [(11, ([11, 4, 0], []))]⟩
  | 51 => Tab.hints ⟨[[], [], [], [], [], [], [], []], [[], [], [], [], [5], [], [], []], [[], [], [], [], [], [], [], []], [(0, [2, 3, 4, 5, 6, 9, 10, 11, 12, 13, 14, 15, 16, 17, 18])], [], [[4], [6], [], [10], [11, 12, 13, 14, 15], [5, 17], [18], []], [[], [], [], [], [], [], [], []], [(9, ([9], [])), (16, ([16, 7, 1, 0, 8], []))], [(9, ([9, 7, 1, 0, 8], [])), (16, ([16, 5], []))]⟩
  | 52 => Tab.hints ⟨[[], []], [[], []], [[], []], [], [], [[0, 3], [1, 2, 4, 5, 6, 7]], [[], [2]], [], []⟩
  | 53 => Tab.hints ⟨[[], [], [3]], [[], [], []], [[], [], []], [], [], [[0, 5], [1, 8, 9, 10, 11, 12, 13, 14], [2, 6, 7, 15, 16, 17, 18, 19]], [[], [], [2]], [], []⟩
  | 54 => Tab.hints ⟨[[], []], [[], []], [[], []], [], [], [[4], [0, 1, 5, 6, 7]], [[], []], [], []⟩
  | 55 => Tab.hints ⟨[[], [], [], [], [], [], [], [], [], []], [[], [], [], [], [], [], [], [], [], []], [[], [], [], [], [], [], [], [], [], []], [(0, [2, 3, 4, 5, 6, 7, 8, 9, 10, 11, 14, 15, 16, 17, 18, 19, 20, 21, 22, 23, 24, 25])], [], [[4], [6, 7, 8, 9], [], [11], [], [15], [5, 16, 17, 18, 19, 20, 21, 22, 23], [], [25], []], [[], [], [], [], [], [], [], [], [], []], [(10, ([10, 0, 1], [])), (14, ([14], [])), (24, ([24, 12, 0, 1, 13], []))], [(10, ([10], [])), (14, ([14, 12, 0, 1, 13], [])), (24, ([24], []))]⟩
  | 56 => Tab.hints ⟨[[], [], [], [0], [], [], [], [], [], [], []], [[], [], [], [], [], [], [], [3], [], [], []], [[], [], [], [], [], [], [], [], [], [], []], [(0, [0, 3, 4, 5, 6, 7, 8, 9, 10, 11, 12, 13, 14, 18, 19, 20, 21, 22, 23, 24, 25, 26, 27, 28, 29, 30, 31])], [(0, [8, 9])], [[6], [10, 11, 12, 13], [], [0], [], [19, 20, 21], [7, 22, 23, 24, 25], [8, 9, 26, 27, 28, 29], [], [31], []], [[], [], [], [], [], [], [], [8, 9], [], [], []], [(14, ([14, 1, 2, 0], [])), (18, ([18], [])), (30, ([30, 16, 15, 1, 2, 17], []))], [(14, ([14], [])), (18, ([18, 16, 15, 1, 2, 17], [])), (30, ([30], []))]⟩
  | 57 => Tab.hints ⟨[[], [], [], [], [], []], [[], [], [], [], [], []], [[], [], [], [], [], []], [], [], [[0, 1, 4], [5, 6, 7, 8], [], [2, 3, 10, 11, 12, 13], [], []], [[], [], [], [2, 3], [], []], [(9, ([9, 3, 2], [2, 3])), (14, ([14], []))], [(9, ([9], [])), (14, ([14], []))]⟩
  | 58 => Tab.hints ⟨[[], [], [], [], [], [], [], [], [], []], [[], [], [], [], [], [], [], [], [], []], [[], [], [], [], [], [], [], [], [], []], [], [], [[0, 1, 4], [5, 6, 7, 8], [], [10, 11, 12, 13], [], [15, 16, 17, 18, 19], [], [2, 3, 21, 22, 23, 24, 25], [], []], [[], [], [], [], [], [], [], [2, 3], [], []], [(9, ([9, 3, 2], [2, 3])), (14, ([14, 2, 3], [2, 3])), (20, ([20, 3, 2], [2, 3])), (26, ([26], []))], [(9, ([9], [])), (14, ([14], [])), (20, ([20], [])), (26, ([26], []))]⟩
  | 59 => Tab.hints ⟨[[], [], [], [], [], [], [], [], []], [[], [], [], [], [], [], [], [], []], [[], [], [], [], [], [], [], [], []], [(0, [2, 3, 4, 6, 7, 8, 9, 10, 11, 12, 13, 14, 15, 16, 17, 18, 19, 20, 21, 22, 23, 24, 25, 26])], [], [[4], [6, 7, 8, 9], [], [], [11, 12, 13], [15, 16], [17, 18, 19, 20, 21, 22, 23, 24, 25], [], []], [[], [], [], [], [], [], [], [], []], [(10, ([10, 0, 1], [])), (14, ([14], [])), (26, ([26, 0, 1, 5], []))], [(10, ([10], [])), (14, ([14, 0, 1, 5], [])), (26, ([26], []))]⟩
  | 60 => Tab.hints ⟨[[], [], [], [], [], [], [], [], [], [], [], [], []], [[], [], [], [], [], [], [], [], [], [], [], [], []], [[], [], [], [], [], [], [], [], [], [], [], [], []], [(0, [2, 3, 4, 6, 7, 8, 9, 10, 11, 12, 13, 14, 15, 16, 17, 18, 19, 20, 21, 22, 23, 24, 25, 26, 27, 28, 29, 30, 31, 32, 33, 34, 35, 36, 37, 38, 39, 40, 41, 42, 43, 44, 45, 46, 47, 48, 49, 50, 51, 52, 53])], [], [[4], [], [6, 7, 8], [10, 11], [12, 13, 14, 15, 16, 17], [18, 19], [20, 21, 22, 23, 24, 25], [26, 27], [28, 29, 30, 31, 32, 33, 34], [35, 36], [37, 38, 39, 40, 41, 42, 43, 44], [45, 46, 47, 48, 49, 50, 51, 52], [1, 53]], [[], [], [], [], [], [], [], [], [], [], [], [], []], [(9, ([9], []))], [(9, ([9, 5, 0], []))]⟩
  | 61 => Tab.hints ⟨[[], [], [], [], [], [], [], [], [], [], []], [[], [], [], [], [], [], [], [], [], [], []], [[], [], [], [], [], [], [], [], [], [], []], [(0, [2, 3, 4, 6, 7, 8, 9, 10, 11, 12, 13, 14, 15, 16, 17, 18, 19, 20, 21, 22, 23, 24, 25, 26])], [], [[4], [6, 7, 8, 9], [10], [], [], [12, 13, 14], [16, 17], [18, 19, 20, 21, 22, 23], [24], [], [1, 26]], [[], [], [], [], [], [], [], [], [], [], []], [(11, ([11, 0, 1], [])), (15, ([15], [])), (25, ([25, 0, 1, 5], []))], [(11, ([11], [])), (15, ([15, 0, 5], [])), (25, ([25], []))]⟩
  | 62 => Tab.hints ⟨[[], [], [], [], [], [], [], [], [], [], []], [[], [], [], [], [], [], [], [], [], [], []], [[], [], [], [], [], [], [], [], [], [], []], [(0, [2, 3, 4, 6, 7, 8, 9, 10, 11, 12, 13, 14, 15, 16, 17, 18, 19, 20, 21, 22, 23, 24, 25, 26, 27])], [], [[4], [6, 7, 8, 9], [10], [], [], [12, 13, 14], [16, 17], [18, 19, 20, 21, 22, 23, 24], [25], [], [1, 27]], [[], [], [], [], [], [], [], [], [], [], []], [(11, ([11, 1, 0], [])), (15, ([15], [])), (26, ([26, 1, 0, 5], []))], [(11, ([11], [])), (15, ([15, 0, 5], [])), (26, ([26], []))]⟩
  | 63 => Tab.hints ⟨[[], [], [], [], [], [], [], []], [[], [], [], [], [], [], [], []], [[], [], [], [], [], [], [], []], [], [], [[0, 4], [5, 6, 7, 8, 9], [10], [], [2, 12, 13, 14, 15], [16], [], [1, 18]], [[], [], [], [], [2], [], [], []], [(11, ([11, 1, 2], [2])), (17, ([17, 1], []))], [(11, ([11], [])), (17, ([17], []))]⟩
  | 64 => Tab.hints ⟨[[0], [3], [], [], [], [], [0, 1]], [[], [], [], [], [], [], []], [[], [], [], [], [], [], []], [(0, [1, 2, 5, 6, 7, 8, 9, 10, 11, 12, 13, 14, 15, 16, 17, 18, 19, 20, 21, 22])], [], [[2], [5, 6, 7], [], [8, 9, 10], [12, 13], [14, 15, 16, 17, 18, 19, 20, 21], [3, 22]], [[], [7], [], [], [], [], []], [(11, ([11], []))], [(11, ([11, 4, 0], []))]⟩
  | 65 => Tab.hints ⟨[[0], [3], [], [], [], [], [0, 1]], [[], [], [], [], [], [], []], [[], [], [], [], [], [], []], [(0, [1, 2, 5, 6, 7, 8, 9, 10, 11, 12, 13, 14, 15, 16, 17, 18, 19, 20, 21])], [], [[2], [5, 6, 7], [], [8, 9, 10], [12, 13], [14, 15, 16, 17, 18, 19, 20], [3, 21]], [[], [7], [], [], [], [], []], [(11, ([11], []))], [(11, ([11, 4, 0], []))]⟩
  | 66 => Tab.hints ⟨[[], [], [], [], []], [[], [], [], [], []], [[], [], [], [], []], [], [], [[0], [], [4, 5, 6], [1, 7, 8, 9, 10], [3, 11]], [[], [], [], [1], [3]], [], []⟩
  | 67 => Tab.hints ⟨[[], []], [[], []], [[], []], [], [], [[4, 5], [0, 1, 6, 7, 8, 9, 10]], [[], []], [], []⟩
  | 68 => Tab.hints ⟨[[], []], [[], []], [[], []], [], [], [[4], [0, 1, 5, 6, 7, 8, 9, 10, 11, 12, 13, 14, 15, 16, 17, 18, 19, 20]], [[], []], [], []⟩
  | 69 => Tab.hints ⟨[[], [], [], [], [], [], [], [], []], [[], [], [], [], [], [], [], [], []], [[], [], [], [], [], [], [], [], []], [(0, [2, 3, 4, 6, 7, 8, 9, 10, 11, 12, 13, 14, 15, 16, 17, 18, 19, 20, 21, 22, 23, 24, 25, 26])], [], [[4], [6, 7, 8, 9], [], [], [11, 12, 13], [15, 16], [17, 18, 19, 20, 21, 22, 23, 24, 25], [], []], [[], [], [], [], [], [], [], [], []], [(10, ([10, 0, 1], [])), (14, ([14], [])), (26, ([26, 0, 1, 5], []))], [(10, ([10], [])), (14, ([14, 0, 1, 5], [])), (26, ([26], []))]⟩
  | 70 => Tab.hints ⟨[[], [], [], [], [], [], [], [], []], [[], [], [], [], [], [], [], [], []], [[], [], [], [], [], [], [], [], []], [(0, [2, 3, 4, 6, 7, 8, 9, 10, 11, 12, 13, 14, 15, 16, 17, 18, 19, 20, 21, 22, 23, 24, 25])], [], [[4], [6, 7, 8, 9], [], [], [11, 12, 13], [15, 16], [17, 18, 19, 20, 21, 22, 23, 24], [], []], [[], [], [], [], [], [], [], [], []], [(10, ([10, 0, 1], [])), (14, ([14], [])), (25, ([25, 0, 1, 5], []))], [(10, ([10], [])), (14, ([14, 0, 1, 5], [])), (25, ([25], []))]⟩
  | 71 => Tab.hints ⟨[[], [], [], [], [], []], [[], [], [], [], [], []], [[], [], [], [], [], []], [], [], [[0, 1, 4], [5, 6, 7, 8], [], [2, 3, 10, 11, 12, 13, 14], [], []], [[], [], [], [2, 3], [], []], [(9, ([9, 3, 2], [2, 3])), (15, ([15], []))], [(9, ([9], [])), (15, ([15], []))]⟩
  | 72 => Tab.hints ⟨[[], [], [], [], [], [], [], [], [], [], []], [[], [], [], [], [], [], [], [], [], [], []], [[], [], [], [], [], [], [], [], [], [], []], [(0, [2, 3, 4, 6, 7, 8, 9, 10, 11, 12, 13, 14, 15, 16, 17, 18, 19, 20, 21, 22, 23, 24, 25, 26])], [], [[4], [6, 7, 8, 9], [10], [], [], [12, 13, 14], [16, 17], [18, 19, 20, 21, 22, 23], [24], [], [1, 26]], [[], [], [], [], [], [], [], [], [], [], []], [(11, ([11, 0, 1], [])), (15, ([15], [])), (25, ([25, 0, 1, 5], []))], [(11, ([11], [])), (15, ([15, 0, 5], [])), (25, ([25], []))]⟩
  | 73 => Tab.hints ⟨[[0], [3], [], [], [], [], [0, 1]], [[], [], [], [], [], [], []], [[], [], [], [], [], [], []], [(0, [1, 2, 5, 6, 7, 8, 9, 10, 11, 12, 13, 14, 15, 16, 17, 18, 19, 20, 21, 22])], [], [[2], [5, 6, 7], [], [8, 9, 10], [12, 13], [14, 15, 16, 17, 18, 19, 20, 21], [3, 22]], [[], [7], [], [], [], [], []], [(11, ([11], []))], [(11, ([11, 4, 0], []))]⟩
  | 74 => Tab.hints ⟨[[], [], [], []], [[], [], [], []], [[], [], [], []], [], [], [[4, 5], [6, 7, 8], [0, 10], [0, 1, 11, 12, 13, 14, 15, 16, 17]], [[], [], [], []], [(9, ([9, 1], []))], [(9, ([9], []))]⟩
  | 75 => Tab.hints ⟨[[], [], [], [], [], [], [], [], []], [[], [], [], [], [], [], [], [], []], [[], [], [], [], [], [], [], [], []], [(0, [2, 3, 4, 6, 7, 8, 9, 10, 11, 12, 13, 14, 15, 16, 17, 18, 19, 20, 21, 22, 23, 24, 25, 26])], [], [[4], [6, 7, 8, 9], [], [], [11, 12, 13], [15, 16], [17, 18, 19, 20, 21, 22, 23, 24, 25], [], []], [[], [], [], [], [], [], [], [], []], [(10, ([10, 0, 1], [])), (14, ([14], [])), (26, ([26, 0, 1, 5], []))], [(10, ([10], [])), (14, ([14, 0, 1, 5], [])), (26, ([26], []))]⟩
  | 76 => Tab.hints ⟨[[], [], [], [], [], [], [], []], [[], [], [], [], [], [], [], []], [[], [], [], [], [], [], [], []], [], [], [[0, 4], [5, 6, 7, 8, 9], [10], [], [2, 12, 13, 14, 15], [16], [], [1, 18]], [[], [], [], [], [2], [], [], []], [(11, ([11, 1, 2], [2])), (17, ([17, 1], []))], [(11, ([11], [])), (17, ([17], []))]⟩
  | 77 => Tab.hints ⟨[[], [], [], [], []], [[], [], [], [], []], [[], [], [], [], []], [], [], [[0], [], [4, 5, 6], [1, 7, 8, 9, 10], [3, 11]], [[], [], [], [1], [3]], [], []⟩
  | 78 => Tab.hints ⟨[[], [], [], [], [], []], [[], [], [], [], [], []], [[], [], [], [], [], []], [], [], [[0, 1, 4], [5, 6, 7, 8], [], [2, 3, 10, 11, 12, 13, 14], [], []], [[], [], [], [2, 3], [], []], [(9, ([9, 3, 2], [2, 3])), (15, ([15], []))], [(9, ([9], [])), (15, ([15], []))]⟩
  | _ => Tab.hints noTab
end Go.Vs
end
section
/- Reading the printed equations: what each step gives at known shapes, and rounds upward. -/
namespace Go.Vs
variable {m : Bool} {β : Type}
@[simp] theorem guarded_true (x : Option β) : guarded true x = x := rfl
@[simp] theorem guarded_false (x : Option β) : guarded false x = none := rfl
@[simp] theorem branch_true (x y : Option β) : branch true x y = x := rfl
@[simp] theorem branch_false (x y : Option β) : branch false x y = y := rfl
theorem branch_ite (b : Bool) (x y : Option β) : branch b x y = if b = true then x else y := by cases b <;> rfl
@[simp] theorem onBool_bool (b : Bool) (k : Bool → Option β) : onBool (.leaf (.bool b) : SV m) k = k b := rfl
@[simp] theorem svLeafK_leaf (l : Leaf m) (k : Leaf m → Option β) : svLeafK (.leaf l) k = k l := rfl
@[simp] theorem svSlK_leaf (c : Fl m) (es : List (List (Leaf m))) (k : Fl m → List (List (Leaf m)) → Option β) : svSlK (.leaf (.sl c es)) k = k c es := rfl
@[simp] theorem svOwnK_own (e : TypeId) (es : List (List (Leaf m))) (k : List (List (Leaf m)) → Option β) : svOwnK e (.own (some e) es) k = k es := by simp [svOwnK]
@[simp] theorem svAggK_agg (cs : List (Leaf m)) (k : List (Leaf m) → Option β) : svAggK (.agg cs) k = k cs := rfl
@[simp] theorem svTupK_tup (vs : List (SV m)) (k : List (SV m) → Option β) : svTupK (.tup vs) k = k vs := rfl
@[simp] theorem svNilK_nil (k : Option β) : svNilK (.nilface : SV m) k = k := rfl
@[simp] theorem intK_int (k0 : IntKind) (n : Int) (k : Int → Option β) : intK k0 (.int k0 n : Leaf m) k = k n := by simp [intK]
@[simp] theorem boolK_bool (b : Bool) (k : Bool → Option β) : boolK (.bool b : Leaf m) k = k b := rfl
@[simp] theorem strK_str (s : ByteArray) (k : ByteArray → Option β) : strK (.str s : Leaf m) k = k s := rfl
@[simp] theorem slK_sl (c : Fl m) (es : List (List (Leaf m))) (k : Fl m → List (List (Leaf m)) → Option β) : slK (.sl c es) k = k c es := rfl
@[simp] theorem atK_zero (l : Leaf m) (e : List (Leaf m)) (k : Leaf m → Option β) : atK (l :: e) 0 k = k l := rfl
@[simp] theorem atK_succ (l : Leaf m) (e : List (Leaf m)) (n : Nat) (k : Leaf m → Option β) : atK (l :: e) (n + 1) k = atK e n k := rfl
@[simp] theorem bindE_eq (e : List (Leaf m)) (k : List (Leaf m) → Option β) : bindE e k = k e := rfl
@[simp] theorem headK_cons (v : SV m) (r : List (SV m)) (k : SV m → List (SV m) → Option β) : headK (v :: r) k = k v r := rfl
@[simp] theorem lastK_nil (k : Option β) : lastK ([] : List (SV m)) k = k := rfl
@[simp] theorem headB_cons (v : List (SV m)) (r : List (List (SV m))) (k : List (SV m) → List (List (SV m)) → Option β) : headB (v :: r) k = k v r := rfl
@[simp] theorem lastB_nil (k : Option β) : lastB ([] : List (List (SV m))) k = k := rfl
@[simp] theorem atSV_zero (l : SV m) (e : List (SV m)) (k : SV m → Option β) : atSV (l :: e) 0 k = k l := rfl
@[simp] theorem atSV_succ (l : SV m) (e : List (SV m)) (n : Nat) (k : SV m → Option β) : atSV (l :: e) (n + 1) k = atSV e n k := rfl
/-- Elements printed by one rule all have its length. -/
theorem sized_map {α : Type} {n : Nat} {f : α → List (Leaf m)} (h : ∀ a, (f a).length = n) (l : List α) : sized n (l.map f) = true := by simp [sized, h]
theorem getD_map {α : Type} {f : α → List (Leaf m)} {l : List α} {i : Nat} (h : i < l.length) : (l.map f).getD i [] = f l[i] := by simp [List.getD, h]
@[simp] theorem fl_false (a b : Fl false) : (a = b) = True := eq_true (by cases a; cases b; rfl)
theorem wrap64 {z : Int} (h1 : -9223372036854775808 ≤ z) (h2 : z ≤ 9223372036854775807) : IntKind.i64.wrap z = z := by
  have e : IntKind.i64.wrap z = if z % 18446744073709551616 ≥ 9223372036854775808 then z % 18446744073709551616 - 18446744073709551616 else z % 18446744073709551616 := by
    simp [IntKind.wrap, IntKind.signed, IntKind.bits]
  rw [e]
  split <;> omega
theorem wrap_up {i : Nat} (h : i < 4611686018427387904) : IntKind.i64.wrap ((i : Int) + 1) = ((i + 1 : Nat) : Int) := by
  rw [wrap64 (by omega) (by omega)]; rfl
/-- From the end of a count back to any place of it. -/
theorem upto_ind {n : Nat} {Q : Nat → Prop} (hn : Q n) (hs : ∀ i, i < n → Q (i + 1) → Q i) : ∀ i, i ≤ n → Q i := by
  intro i hi
  obtain ⟨k, rfl⟩ : ∃ k, n = i + k := ⟨n - i, by omega⟩
  induction k generalizing i with
  | zero => exact hn
  | succ k ih => exact hs i (by omega) (ih (i + 1) (by rw [show i + 1 + k = i + (k + 1) by omega]; exact hn) (by intro j hj; exact hs j (by omega)) (by omega))
/-- A row of which the first i elements have been written. -/
def rowAt (l : List (List (Leaf m))) (i : Nat) (z : List (SV m)) : List (SV m) := (l.take i).flatten.map SV.leaf ++ z
theorem flatten_len {α : Type} {z : Nat} : ∀ {l : List (List α)}, (∀ e ∈ l, e.length = z) → l.flatten.length = l.length * z
  | [], _ => by simp
  | e :: l, h => by
    have h1 := h e (by simp)
    have h2 := flatten_len (l := l) (fun e he => h e (by simp [he]))
    rw [List.flatten_cons, List.length_append, h1, h2, List.length_cons, Nat.add_mul]; omega
theorem rowAt_len {l : List (List (Leaf m))} {k i : Nat} {z : List (SV m)} (h : ∀ e ∈ l, e.length = k) (hi : i ≤ l.length) : (rowAt l i z).length = i * k + z.length := by
  unfold rowAt
  rw [List.length_append, List.length_map, flatten_len (z := k) (fun e he => h e (List.mem_of_mem_take he)), List.length_take, Nat.min_eq_left hi]
theorem putAt_row {l : List (List (Leaf m))} {k i : Nat} {z : List (SV m)} (h : ∀ e ∈ l, e.length = k) (hi : i < l.length) :
    putAt (rowAt l i z) (i * k) (l[i].map SV.leaf) = rowAt l (i + 1) (z.drop k) := by
  have hl : ((l.take i).flatten.map (SV.leaf (m := m))).length = i * k := by
    rw [List.length_map, flatten_len (z := k) (fun e he => h e (List.mem_of_mem_take he)), List.length_take, Nat.min_eq_left (Nat.le_of_lt hi)]
  have hk : (l[i].map (SV.leaf (m := m))).length = k := by rw [List.length_map]; exact h _ (List.getElem_mem hi)
  unfold putAt rowAt
  rw [hk, List.take_append_of_le_length (by omega), List.take_of_length_le (by omega), ← hl, List.drop_append, List.drop_of_length_le (by omega)]
  rw [List.take_succ_eq_append_getElem hi]
  simp only [List.flatten_append, List.map_append, List.flatten_cons, List.flatten_nil, List.append_nil, List.append_assoc, List.nil_append, Nat.add_sub_cancel_left]
theorem asLeaves_map : ∀ l : List (Leaf m), asLeaves (l.map SV.leaf) = some l
  | [] => rfl
  | a :: l => by simp [asLeaves, asLeaf, asLeaves_map l]
theorem chunks_flatten {α : Type} {z : Nat} : ∀ {l : List (List α)}, (∀ e ∈ l, e.length = z) → chunks z l.length l.flatten = l
  | [], _ => rfl
  | e :: l, h => by
    have h1 := h e (by simp)
    have h2 := chunks_flatten (l := l) (fun e he => h e (by simp [he]))
    simp only [List.length_cons, chunks, List.flatten_cons, ← h1, List.take_left', List.drop_left']
    rw [h1, h2]
theorem row_full {l : List (List (Leaf m))} {k : Nat} {z : List (SV m)} (h : ∀ e ∈ l, e.length = k) : asLeaves ((rowAt l l.length z).take (l.length * k)) = some l.flatten := by
  unfold rowAt
  have hl : (l.flatten.map (SV.leaf (m := m))).length = l.length * k := by rw [List.length_map, flatten_len h]
  rw [List.take_length, List.take_append_of_le_length (by omega), List.take_of_length_le (by omega)]
  exact asLeaves_map _
end Go.Vs
end
section
/- What a row hands in, as leaves: the cells of the old memory are sealed; the leaves have their type's shape. -/
namespace Go.Vs
variable {m : Bool} {P : Program} {N : Env} {H : Type} {enc : TypeId × Value → H}
def Parts (p : TypeId → List (Leaf m) → Prop) : List TypeId → List (Leaf m) → Prop
  | [], ls => ls = []
  | t :: ts, ls => ∃ a b, ls = a ++ b ∧ p t a ∧ Parts p ts b
/-- Leaves of a type's shape; all slices bear the same flag. -/
def Shaped (P : Program) (c : Fl m) : Nat → TypeId → List (Leaf m) → Prop
  | 0, _, _ => False
  | n + 1, t, ls => match P.underlying t with
    | some .bool => ∃ b, ls = [.bool b]
    | some (.int k) => ∃ z, ls = [.int k z] ∧ (Lit.int k z).wf = true
    | some .string => ∃ s : ByteArray, ls = [.str s] ∧ s.size ≤ maxLen
    | some (.slice e) => ∃ es, ls = [.sl c es] ∧ es.length ≤ maxLen ∧ ∀ x ∈ es, Shaped P c n e x
    | some (.struct fs) => Parts (Shaped P c n) (fs.toList.map Field.type) ls
    | _ => False
def fsOk (P : Program) (S : List TypeId) : Nat → List Field → Nat → Bool
  | o, [], z => o == z
  | o, f :: fs, z => f.offset == o && S.contains f.type && fsOk P S (o + P.cellsOf f.type) fs z
def tyOk (P : Program) (S : List TypeId) (t : TypeId) : Bool := match P.underlying t with
  | some .bool | some (.int _) | some .string => true
  | some (.slice e) => S.contains e && decide (0 < P.cellsOf e)
  | some (.struct fs) => fsOk P S 0 fs.toList (P.cellsOf t)
  | _ => false
theorem parts_mono {p q : TypeId → List (Leaf m) → Prop} : ∀ {ts : List TypeId} {ls : List (Leaf m)}, (∀ t ls, p t ls → q t ls) → Parts p ts ls → Parts q ts ls
  | [], _, _, h => h
  | _ :: _, _, hpq, ⟨a, b, e, h1, h2⟩ => ⟨a, b, e, hpq _ _ h1, parts_mono hpq h2⟩
/-- The cells of each block. -/
def sealW (w : World) : Fr := fun g => match w.heap[g]? with | some (.cells c _ _) => c.size | _ => 0
theorem sealW_lt {w : World} {g j : Nat} {v : Value} (h : w.cell? ⟨g, j, none⟩ = some v) : j < sealW w g := by
  unfold World.cell? at h
  unfold sealW
  simp only at h
  split at h
  · rename_i c e fr hc
    simp only [hc]
    exact (List.getElem?_eq_some_iff.1 (by simpa using h)).1
  · simp at h
theorem cells_row {w : World} {base : Nat} {a : Addr} {n : Nat} {cs : List Value} (h : w.cells? base a n = some cs) : cs.length = n ∧ ∀ j v, cs[j]? = some v → w.cell? (a.add j) = some v := by
  unfold World.cells? at h
  split at h
  · refine ⟨by simpa using mapM_some_length h, fun j v hj => ?_⟩
    have hlen : cs.length = n := by simpa using mapM_some_length h
    have hj' : j < n := by rw [← hlen]; exact (List.getElem?_eq_some_iff.1 hj).1
    have := mapM_some_get h j j (by simp [hj'])
    rw [this, hj]
  · simp at h
theorem partsW {w : World} {F : Fr} {base : Nat} {sp : Nat → Bool} {held : Bool} {c : Fl m} {S : List TypeId} {n : Nat}
    (ih : ∀ t cs x, t ∈ S → DataW.trod enc P w base sp held n t cs = some x → ∃ ls : List (Leaf m), RepR w F N ls cs ∧ Shaped P c n t ls) (cs : List Value) :
    ∀ (fs : List Field) (o : Nat), fsOk P S o fs cs.length = true → (∀ f ∈ fs, ∃ x, DataW.trod enc P w base sp held n f.type ((cs.drop f.offset).take (P.cellsOf f.type)) = some x) →
      ∃ ls : List (Leaf m), RepR w F N ls (cs.drop o) ∧ Parts (Shaped P c n) (fs.map Field.type) ls
  | [], o, h, _ => by
    simp only [fsOk, beq_iff_eq] at h
    refine ⟨[], ?_, rfl⟩
    rw [List.drop_of_length_le (by omega)]
    exact RepR.nil _ _ _
  | f :: fs, o, h, hx => by
    simp only [fsOk, Bool.and_eq_true, beq_iff_eq, List.contains_iff_mem] at h
    obtain ⟨⟨ho, hS⟩, h⟩ := h
    obtain ⟨x, hx0⟩ := hx f (by simp)
    obtain ⟨a, ha, sa⟩ := ih _ _ _ hS hx0
    obtain ⟨b, hb, sb⟩ := partsW ih cs fs _ h fun g hg => hx g (by simp [hg])
    refine ⟨a ++ b, ?_, a, b, rfl, sa, sb⟩
    have := ha.append hb
    rw [ho] at this
    rwa [← List.drop_drop, List.take_append_drop] at this
theorem trod_rep {w : World} {F : Fr} {base : Nat} {sp : Nat → Bool} {held : Bool} {c : Fl m} (hc1 : ∀ g o, c.Holds N w g o) (hc2 : c.isSoft = false) (hF : ∀ g j v, w.cell? ⟨g, j, none⟩ = some v → j < F g) (hZ : ∀ g, N.Z g = false)
    {S : List TypeId} (hS : S.all (tyOk P S) = true) : ∀ (fuel : Nat) (t : TypeId) (cs : List Value) (x : DataW H × List MemPlace), t ∈ S → DataW.trod enc P w base sp held fuel t cs = some x → ∃ ls : List (Leaf m), RepR w F N ls cs ∧ Shaped P c fuel t ls
  | 0, t, cs, x, _, h => by simp [DataW.trod] at h
  | n + 1, t, cs, x, ht, h => by
    have ih := trod_rep (c := c) hc1 hc2 hF hZ hS n (w := w) (base := base) (sp := sp) (held := held)
    have hok := List.all_eq_true.1 hS t ht
    unfold tyOk at hok
    split at hok
    · rename_i hu
      obtain ⟨b, rfl, _⟩ := DataW.trod_bool hu h
      exact ⟨[.bool b], RepR.cons (.bool b) (RepR.nil _ _ _), by unfold Shaped; simp only [hu]; exact ⟨b, rfl⟩⟩
    · rename_i k hu
      obtain ⟨z, rfl, _, hw⟩ := DataW.trod_int hu h
      exact ⟨[.int k z], RepR.cons (.int k z) (RepR.nil _ _ _), by unfold Shaped; simp only [hu]; exact ⟨z, rfl, hw⟩⟩
    · rename_i hu
      obtain ⟨s, rfl, _, hs⟩ := DataW.trod_string hu h
      exact ⟨[.str s], RepR.cons (.str s) (RepR.nil _ _ _), by unfold Shaped; simp only [hu]; exact ⟨s, rfl, hs⟩⟩
    · rename_i e hu
      have hs : ∀ ls : List (Leaf m), Shaped P c (n + 1) t ls ↔ ∃ es, ls = [.sl c es] ∧ es.length ≤ maxLen ∧ ∀ x ∈ es, Shaped P c n e x := fun ls => by
        conv => lhs; unfold Shaped
        simp only [hu]
      simp only [hs]
      simp only [Bool.and_eq_true, List.contains_iff_mem, decide_eq_true_eq] at hok
      obtain ⟨heS, hz⟩ := hok
      rcases DataW.trod_slice hu h with ⟨rfl, _⟩ | ⟨a, len, cap, elems, rest, n', hn, rfl, _, _, hlc, hcm, hel, hget, _, _⟩
      · exact ⟨[.sl c []], RepR.cons (repL_sl_mk (es := []) (z := 0) (vals := []) (Nat.le_refl _) (by simp) (fun h => by simp at h) (RepR.nil _ _ _)) (RepR.nil _ _ _), [], rfl, by simp, by simp⟩
      · obtain rfl : n' = n := by omega
        have rows : ∀ k, k ≤ len → ∃ (es : List (List (Leaf m))) (vals : List Value), es.length = k ∧ (∀ x ∈ es, x.length = P.cellsOf e) ∧ (∀ j v, vals[j]? = some v → w.cell? (a.add j) = some v) ∧ RepR w F N es.flatten vals ∧ vals.length = k * P.cellsOf e ∧ ∀ x ∈ es, Shaped P c n' e x := by
          intro k
          induction k with
          | zero => intro _; exact ⟨[], [], rfl, by simp, by simp, RepR.nil _ _ _, by simp, by simp⟩
          | succ k ihk =>
            intro hk
            obtain ⟨es, vals, h1, h2, h3, h4, h5, h6⟩ := ihk (by omega)
            have hg := hget k (by omega)
            have : k < elems.length := by omega
            rw [List.getElem?_eq_getElem this, Option.bind_eq_some_iff] at hg
            obtain ⟨ck, hck, htk⟩ := hg
            obtain ⟨ls, hls, hsh⟩ := ih _ _ _ heS htk
            obtain ⟨hcl, hcc⟩ := cells_row hck
            refine ⟨es ++ [ls], vals ++ ck, by simp [h1], ?_, ?_, by simpa using h4.append hls, by rw [List.length_append, h5, hcl, Nat.add_mul]; omega, ?_⟩
            · intro x hx
              rcases List.mem_append.1 hx with hx | hx
              · exact h2 x hx
              · obtain rfl : x = ls := by simpa using hx
                rw [← hls.1, hcl]
            · intro j v hj
              rw [List.getElem?_append] at hj
              split at hj
              · exact h3 j v hj
              · rename_i hge
                have := hcc _ _ hj
                rw [← this]
                congr 1
                have e1 : k * P.cellsOf e + (j - vals.length) = j := by omega
                unfold Addr.add
                by_cases hk0 : k * P.cellsOf e = 0
                · simp only [hk0, if_true]
                  rw [show j - vals.length = j by omega]
                · by_cases hj0 : j - vals.length = 0
                  · simp only [hk0, if_false, hj0, if_true]
                    rw [if_neg (by omega)]
                    congr 1; omega
                  · simp only [hk0, if_false, hj0]
                    rw [if_neg (by omega)]
                    simp only [Addr.mk.injEq, and_true, true_and]; omega
            · intro x hx
              rcases List.mem_append.1 hx with hx | hx
              · exact h6 x hx
              · obtain rfl : x = ls := by simpa using hx
                exact hsh
        obtain ⟨es, vals, h1, h2, h3, h4, h5, h6⟩ := rows len (Nat.le_refl _)
        refine ⟨[.sl c es], RepR.cons ?_ (RepR.nil _ _ _), es, rfl, by omega, h6⟩
        subst h1
        refine repL_sl_mk hlc h2 (fun hpos => ?_) h4
        have hv0 : 0 < vals.length := by rw [h5]; exact Nat.mul_pos hpos hz
        obtain ⟨g, o, spot⟩ := a
        have hc0 := h3 0 _ (List.getElem?_eq_getElem hv0)
        have hsp : spot = none := by
          cases spot with
          | none => rfl
          | some s =>
            exfalso
            simp only [Addr.add, if_true, World.cell?] at hc0
            split at hc0 <;> simp at hc0
        subst hsp
        have hcell : ∀ j v, vals[j]? = some v → w.cell? ⟨g, o + j, none⟩ = some v := fun j v hj => by
          have := h3 j v hj
          unfold Addr.add at this
          split at this
          · rename_i hj0; rw [hj0]; exact this
          · exact this
        have hlast := hF _ _ _ (hcell (vals.length - 1) _ (List.getElem?_eq_getElem (by omega)))
        exact ⟨g, o, rfl, ⟨hv0, hc1 _ _⟩, by omega, ⟨fun h => by rw [hc2] at h; simp at h, fun h => by rw [hZ] at h; simp at h⟩, hcell⟩
    · rename_i fs hu
      have hs : ∀ ls : List (Leaf m), Shaped P c (n + 1) t ls ↔ Parts (Shaped P c n) (fs.toList.map Field.type) ls := fun ls => by
        conv => lhs; unfold Shaped
        simp only [hu]
      simp only [hs]
      obtain ⟨xs, n', hn, _, hl, hlen, hf⟩ := DataW.trod_struct hu h
      obtain rfl : n' = n := by omega
      rw [← hl] at hok
      have := partsW (c := c) ih cs fs.toList 0 hok fun f hfm => by
        obtain ⟨i, hi, rfl⟩ := List.getElem_of_mem hfm
        have hi' : i < fs.size := by simpa using hi
        have := hf i fs[i] (Array.getElem?_eq_getElem hi')
        rw [List.getElem?_eq_getElem (by omega)] at this
        exact ⟨_, by simpa using this⟩
      simpa using this
    · simp at hok
end Go.Vs
namespace Go.Vs
variable {m : Bool} {P : Program}
/-- New memory from here on; nothing older is written. -/
def N0 (W : World) : Env := { n := W.heap.size, Z := fun _ => false, lt := fun g h => by simp at h }
/-- What is told of a call is what it does, at arguments of the old memory; the old memory stays. -/
theorem law_calls {D : Oracle m} (hD : DSound P D) {f : FuncId} {args : List (SV m)} {r : SV m} (h : D f args [] = some (r, [])) (hh : args.all SV.handed = true) {W : World} {vals : Array Value} (hl : args.length = vals.size)
    (hr : ∀ j a v, args[j]? = some a → vals[j]? = some v → RepS P W (sealW W) (N0 W) (fun _ => none) (fun _ => W.heap.size) (fun _ => false) (.tmp j) a v) :
    Calls P f vals W fun e w' => ∃ v F' Ow' bm al, e = .returned v ∧ RepS P w' F' (N0 W) Ow' bm al (.tmp 0) r v ∧ Go.RowKit.Below W.heap.size W w' := by
  obtain ⟨_, _, _, _, hc⟩ := hD (N0 W) f args [] (r, []) h hh (by simp)
  refine (hc W (sealW W) (fun _ => none) (fun _ => W.heap.size) vals ⟨hl, fun t => ?_, fun b cs hb => ?_, Nat.le_refl _, fun g hg => ⟨?_, rfl⟩, fun b cs hb => ?_, fun g hg => ?_⟩).mono fun e w' ⟨v, F', Ow', he, hi, hf⟩ => ?_
  · by_cases ht : t < args.length
    · have := hr t _ _ (List.getElem?_eq_getElem ht) (Array.getElem?_eq_getElem (by omega))
      simp only [List.getD, List.getElem?_eq_getElem ht, Option.getD_some, Array.getD, show t < vals.size by omega, dif_pos]
      exact this.keeps (Keeps.refl _ _) (fun b hb => by simp at hb) (fun g hg => by simp at hg)
    · simp only [List.getD, List.getElem?_eq_none (Nat.not_lt.1 ht), Option.getD_none]
      exact trivial
  · simp [boxAt] at hb
  · unfold sealW
    rw [Array.getElem?_eq_none hg]
  · simp [boxAt] at hb
  · simp [N0] at hg
  · refine ⟨v, F', Ow', _, _, he, hi.slot 0, hf.os, hf.tape, hf.output, hf.size, fun k hk => (hf.old k hk rfl).1 rfl⟩
end Go.Vs
end
section
/- Leaves under other flags, and from one setting of the memory to another. -/
namespace Go.Vs
variable {m m' : Bool} {P : Program}
mutual
def reF (φ : Fl m → Fl m') : Leaf m → Leaf m'
  | .bool b => .bool b
  | .int k n => .int k n
  | .str s => .str s
  | .unk => .unk
  | .nl e => .nl e
  | .sl c es => .sl (φ c) (reE φ es)
def reL (φ : Fl m → Fl m') : List (Leaf m) → List (Leaf m')
  | [] => []
  | l :: r => reF φ l :: reL φ r
def reE (φ : Fl m → Fl m') : List (List (Leaf m)) → List (List (Leaf m'))
  | [] => []
  | e :: r => reL φ e :: reE φ r
end
variable {φ : Fl m → Fl m'}
theorem reL_map : ∀ l : List (Leaf m), reL φ l = l.map (reF φ)
  | [] => rfl
  | l :: r => by rw [reL, List.map_cons, reL_map r]
theorem reE_map : ∀ l : List (List (Leaf m)), reE φ l = l.map (reL φ)
  | [] => rfl
  | l :: r => by rw [reE, List.map_cons, reE_map r]
theorem reL_length (l : List (Leaf m)) : (reL φ l).length = l.length := by rw [reL_map, List.length_map]
theorem reE_length (l : List (List (Leaf m))) : (reE φ l).length = l.length := by rw [reE_map, List.length_map]
theorem reE_flatten : ∀ l : List (List (Leaf m)), (reE φ l).flatten = reL φ l.flatten
  | [] => rfl
  | e :: r => by rw [reE, List.flatten_cons, List.flatten_cons, reE_flatten r, reL_map, reL_map, reL_map, List.map_append]
theorem reF_soft (l : Leaf m) : (reF φ l).soft = l.soft := by cases l <;> rfl
/-- What must be so of each row for its leaf to stand elsewhere. -/
def ReOk (φ : Fl m → Fl m') (w : World) (F : Fr) (N : Env) (F' : Fr) (N' : Env) : Prop :=
  ∀ (c : Fl m) (g o : Nat), g < w.heap.size → c.Holds N w g o → (φ c).Holds N' w g o ∧ F g ≤ F' g ∧ ((c.isSoft = true → N.Z g = true) → (φ c).isSoft = true → N'.Z g = true) ∧ (N'.Z g = true → N.Z g = true)
theorem cell_lt {w : World} {g j : Nat} {v : Value} (h : w.cell? ⟨g, j, none⟩ = some v) : g < w.heap.size := by
  unfold World.cell? at h
  simp only at h
  split at h
  · rename_i c e fr hc
    exact (Array.getElem?_eq_some_iff.1 hc).1
  · simp at h
theorem RepL.re {w : World} {F F' : Fr} {N N' : Env} (hok : ReOk φ w F N F' N') {l : Leaf m} {v : Value} (h : RepL w F N l v) : RepL w F' N' (reF φ l) v := by
  induction h with
  | bool b => exact .bool b
  | int k n => exact .int k n
  | str s => exact .str s
  | unk v h => exact .unk v h
  | nl e => exact .nl e
  | sl c es A cap z vals hc hz hv hcell hr ih =>
    rw [show reF φ (.sl c es) = .sl (φ c) (reE φ es) by rw [reF]]
    have hl : (reE φ es).length = es.length := reE_length es
    rw [← hl]
    refine .sl (φ c) (reE φ es) A cap z vals (by rw [hl]; exact hc) (fun e he => ?_) (by rw [hl]; exact hv) (fun hpos => ?_) (fun j l v h1 h2 => ?_)
    · rw [reE_map] at he
      obtain ⟨e0, he0, rfl⟩ := List.mem_map.1 he
      rw [reL_length]; exact hz e0 he0
    · rw [hl] at hpos
      obtain ⟨g, o, e, ⟨hv0, hn⟩, hle, hso, hcl⟩ := hcell hpos
      obtain ⟨h1, h2, h3, h4⟩ := hok c g o (cell_lt (hcl 0 _ (List.getElem?_eq_getElem hv0))) hn
      refine ⟨g, o, e, ⟨hv0, h1⟩, Nat.le_trans hle h2, ⟨fun hs => h3 hso.1 hs, fun hz' l hl' => ?_⟩, hcl⟩
      rw [reE_flatten, reL_map] at hl'
      obtain ⟨l0, hl0, rfl⟩ := List.mem_map.1 hl'
      rw [reF_soft]
      exact hso.2 (h4 hz') l0 hl0
    · rw [reE_flatten, reL_map, List.getElem?_map, Option.map_eq_some_iff] at h1
      obtain ⟨l0, hl0, rfl⟩ := h1
      exact ih j l0 v hl0 h2
theorem RepR.re {w : World} {F F' : Fr} {N N' : Env} (hok : ReOk φ w F N F' N') {ls : List (Leaf m)} {vs : List Value} (h : RepR w F N ls vs) : RepR w F' N' (reL φ ls) vs := by
  refine ⟨by rw [reL_length, h.1], fun j l v h1 h2 => ?_⟩
  rw [reL_map, List.getElem?_map, Option.map_eq_some_iff] at h1
  obtain ⟨l0, hl0, rfl⟩ := h1
  exact (h.2 j l0 v hl0 h2).re hok
/-- Flags that say nothing suit everywhere. -/
theorem reOk_plain {w : World} {F : Fr} {N : Env} (hφ : ∀ c g o, (φ c).Holds N w g o) (hs : ∀ c, (φ c).isSoft = false) : ReOk φ w F N F N :=
  fun c g o _ _ => ⟨hφ c g o, Nat.le_refl _, fun _ h => by rw [hs] at h; simp at h, id⟩
theorem plain_holds (c : Fl false) {N : Env} {w : World} {g o : Nat} : c.Holds N w g o := by cases c; trivial
theorem old_holds {N : Env} {w : World} {g o : Nat} : Fl.Holds (m := true) Flag.old N w g o := trivial
end Go.Vs
end
section
/- What is told of a function's calls in the one mode serves in the other: flags that say nothing may be had anew. -/
namespace Go.Vs
variable {m m' : Bool} {P : Program}
mutual
def reS (φ : Fl m → Fl m') : SV m → SV m'
  | .any => .any
  | .skip => .skip
  | .leaf l => .leaf (reF φ l)
  | .own e es => .own e (reE φ es)
  | .agg cs => .agg (reL φ cs)
  | .ptr b o => .ptr b o
  | .eptr _ _ _ => .any
  | .bsl b z lo n => .bsl b z lo n
  | .nilptr => .nilptr
  | .nilface => .nilface
  | .fn f caps => .fn f (reSs φ caps)
  | .tup vs => .tup (reSs φ vs)
def reSs (φ : Fl m → Fl m') : List (SV m) → List (SV m')
  | [] => []
  | v :: r => reS φ v :: reSs φ r
end
variable {φ : Fl m → Fl m'}
theorem reSs_map : ∀ l : List (SV m), reSs φ l = l.map (reS φ)
  | [] => rfl
  | l :: r => by rw [reSs, List.map_cons, reSs_map r]
theorem reS_data (x : SV m) : (reS φ x).data = x.data := by cases x <;> rfl
theorem reS_flat (x : SV m) (h : x.flat = true) : (reS φ x).flat = true := by cases x <;> first | rfl | simp [SV.flat] at h
theorem reS_flatT (x : SV m) (h : x.flatT = true) : (reS φ x).flatT = true := by
  cases x with
  | tup vs =>
    rw [reS, reSs_map]
    simp only [SV.flatT, List.all_map] at h ⊢
    exact List.all_eq_true.2 fun v hv => reS_flat v (List.all_eq_true.1 h v hv)
  | _ => first | rfl | simp [SV.flatT, SV.flat] at h
theorem reS_handed (x : SV m) (h : x.handed = true) : (reS φ x).handed = true := by
  cases x with
  | fn f caps =>
    rw [reS, reSs_map]
    simp only [SV.handed, List.all_map] at h ⊢
    refine List.all_eq_true.2 fun v hv => ?_
    have := List.all_eq_true.1 h v hv
    cases v <;> first | rfl | simp at this
  | _ => first | rfl | simp [SV.handed, SV.data] at h
def reSt (φ : Fl m → Fl m') (s : St m) : St m' := { tmps := s.tmps.map (reS φ), boxes := s.boxes.map (Option.map (List.map (reS φ))) }
theorem boxAt_re (bs : Boxes m) (b : Nat) : boxAt (bs.map (Option.map (List.map (reS φ)))) b = (boxAt bs b).map (List.map (reS φ)) := by
  unfold boxAt
  rw [List.getD_eq_getElem?_getD, List.getD_eq_getElem?_getD, List.getElem?_map]
  cases bs[b]? <;> rfl
section
variable {w : World} {F : Fr} {N : Env} (hok : ReOk φ w F N F N)
include hok
theorem RepF.re {bm : Nat → Nat} {al : Nat → Bool} {x : SV m} {v : Value} (h : RepF w F N bm al x v) : RepF w F N bm al (reS φ x) v := by
  cases x with
  | leaf l => exact RepL.re hok h
  | agg cs => obtain ⟨vs, e, hr⟩ := h; exact ⟨vs, e, hr.re hok⟩
  | eptr c e o => trivial
  | own e es => exact absurd h id
  | fn f caps => exact absurd h id
  | tup vs => exact absurd h id
  | _ => exact h
theorem RepO.re {Ow : Own} {loc : Loc} {eo : Option TypeId} {es : List (List (Leaf m))} {v : Value} (h : RepO P w F N Ow loc eo es v) : RepO P w F N Ow loc eo (reE φ es) v := by
  rcases h with ⟨rfl, rfl⟩ | ⟨g, cap, cur, e, i, vals, hn, he, hi, hz, rfl, hg, hc, hm, hs, hx, ho, hf, ht, hr⟩
  · exact .inl ⟨rfl, rfl⟩
  · refine .inr ⟨g, cap, cur, e, i, vals, hn, he, hi, hz, by rw [reE_length], hg, by rw [reE_length]; exact hc, hm, hs, fun x hx' => ?_, ho, by rw [reE_length]; exact hf, by rw [reE_length]; exact ht, by rw [reE_flatten]; exact hr.re hok⟩
    rw [reE_map] at hx'
    obtain ⟨x0, hx0, rfl⟩ := List.mem_map.1 hx'
    rw [reL_length]; exact hx x0 hx0
theorem RepS.re {Ow : Own} {bm : Nat → Nat} {al : Nat → Bool} {loc : Loc} {x : SV m} {v : Value} (h : RepS P w F N Ow bm al loc x v) : RepS P w F N Ow bm al loc (reS φ x) v := by
  have caps : ∀ (cs : List (SV m)) (vs : Array Value), (∀ (j : Nat) (c : SV m) (u : Value), cs[j]? = some c → vs[j]? = some u → RepF w F N bm al c u) →
      ∀ (j : Nat) (c : SV m') (u : Value), (reSs φ cs)[j]? = some c → vs[j]? = some u → RepF w F N bm al c u := by
    intro cs vs hc j c u h1 h2
    rw [reSs_map, List.getElem?_map, Option.map_eq_some_iff] at h1
    obtain ⟨c0, h0, rfl⟩ := h1
    exact (hc j c0 u h0 h2).re hok
  cases x with
  | own eo es => exact RepO.re hok h
  | fn f cs => obtain ⟨vs, e, hs, hc⟩ := h; exact ⟨vs, e, by rw [hs, reSs_map, List.length_map], caps cs vs hc⟩
  | tup cs => obtain ⟨vs, e, hs, hc⟩ := h; exact ⟨vs, e, by rw [hs, reSs_map, List.length_map], caps cs vs hc⟩
  | any => trivial
  | eptr c e o => trivial
  | _ =>
    simp only [RepS] at h
    have := RepF.re (bm := bm) (al := al) hok h
    simpa only [reS, RepS] using this
theorem Inv.re {s : St m} {tmps : Array Value} {Ow : Own} {bm : Nat → Nat} (h : Inv P s tmps w F N Ow bm) : Inv P (reSt φ s) tmps w F N Ow bm := by
  have hal : (fun b => (boxAt (reSt φ s).boxes b).isSome) = fun b => (boxAt s.boxes b).isSome := by
    funext b; show (boxAt (s.boxes.map _) b).isSome = _; rw [boxAt_re]; cases boxAt s.boxes b <;> rfl
  refine ⟨by show (s.tmps.map _).length = _; rw [List.length_map]; exact h.len, fun t => ?_, fun b cs hb => ?_, h.low, h.new, fun b cs hb => ?_, h.zow⟩
  · rw [hal]
    have := RepS.re hok (h.slot t)
    have e : (reSt φ s).tmps.getD t SV.any = reS φ (s.tmps.getD t SV.any) := by
      show (s.tmps.map (reS φ)).getD t SV.any = _
      rw [List.getD_eq_getElem?_getD, List.getD_eq_getElem?_getD, List.getElem?_map]
      cases s.tmps[t]? <;> rfl
    rw [e]; exact this
  · have hb' : (boxAt s.boxes b).map (List.map (reS φ)) = some cs := by rw [← boxAt_re]; exact hb
    rw [Option.map_eq_some_iff] at hb'
    obtain ⟨cs0, h0, rfl⟩ := hb'
    obtain ⟨cur, e, g1, g2, g3, g4, g5⟩ := h.box b cs0 h0
    refine ⟨cur, e, g1, by rw [List.length_map]; exact g2, g3, g4, fun j c u h1 h2 => ?_⟩
    rw [hal]
    rw [List.getElem?_map, Option.map_eq_some_iff] at h1
    obtain ⟨c0, hc0, rfl⟩ := h1
    exact RepS.re hok (g5 j c0 u hc0 h2)
  · have hb' : (boxAt s.boxes b).map (List.map (reS φ)) = some cs := by rw [← boxAt_re]; exact hb
    rw [Option.map_eq_some_iff] at hb'
    obtain ⟨cs0, h0, _⟩ := hb'
    exact h.bmn b cs0 h0
end
abbrev er : Fl true → Fl false := fun _ => ()
abbrev li : Fl false → Fl true := fun _ => Flag.old
/-- What is told in the plain mode, told in the deep one. -/
def lifted (D : Oracle false) (f : FuncId) (args : List (SV true)) (boxes : List (List (SV true))) : Option (SV true × List (List (SV true))) :=
  (D f (args.map (reS er)) (boxes.map (List.map (reS er)))).map fun r => (reS li r.1, r.2.map (List.map (reS li)))
theorem lifted_sound {D : Oracle false} (hD : DSound P D) : DSound P (lifted D) := by
  intro N f args boxes r hr hh hf
  unfold lifted at hr
  rw [Option.map_eq_some_iff] at hr
  obtain ⟨r0, hr0, rfl⟩ := hr
  obtain ⟨a1, a2, a3, a4, a5⟩ := hD N f _ _ r0 hr0 (by
    rw [List.all_map]
    exact List.all_eq_true.2 fun v hv => reS_handed v (List.all_eq_true.1 hh v hv)) (fun c hc x hx => by
    obtain ⟨c0, hc0, rfl⟩ := List.mem_map.1 hc
    obtain ⟨x0, hx0, rfl⟩ := List.mem_map.1 hx
    exact reS_flat x0 (hf c0 hc0 x0 hx0))
  refine ⟨by rw [List.length_map, a1, List.length_map], reS_flatT _ a2, fun cs hcs c hc => ?_, a4, fun w F Ow bm vals h => ?_⟩
  · obtain ⟨c0, hc0, rfl⟩ := List.mem_map.1 hcs
    obtain ⟨x0, hx0, rfl⟩ := List.mem_map.1 hc
    exact reS_flat x0 (a3 c0 hc0 x0 hx0)
  · have e : reSt er { tmps := args, boxes := boxes.map some } = { tmps := args.map (reS er), boxes := (boxes.map (List.map (reS er))).map some } := by
      unfold reSt
      simp only [List.map_map]
      rfl
    refine (a5 w F Ow bm vals (e ▸ Inv.re (reOk_plain (fun c g o => plain_holds _) (fun c => rfl)) h)).mono fun ex w' ⟨v, F', Ow', h1, h2, h3⟩ => ⟨v, F', Ow', h1, ?_, h3⟩
    have e2 : reSt li { tmps := [r0.1], boxes := r0.2.map some } = { tmps := [reS li r0.1], boxes := (r0.2.map (List.map (reS li))).map some } := by
      unfold reSt
      simp only [List.map_map]
      rfl
    exact e2 ▸ Inv.re (reOk_plain (fun c g o => old_holds) (fun c => rfl)) h2
/-- The functions of a list are told so. -/
def liftT (D : Oracle false) (keep : FuncId → Bool) : Told true := fun f => match keep f with | true => none | false => some fun a b => lifted D f a b
theorem liftT_sound {D : Oracle false} (hD : DSound P D) (keep : FuncId → Bool) : TSound P (liftT D keep) := by
  intro f t ht
  unfold liftT at ht
  cases hk : keep f with
  | true => simp [hk] at ht
  | false =>
    simp only [hk, Option.some.injEq] at ht
    subst ht
    intro N g args boxes r hr
    simp only at hr
    split at hr
    · rename_i hg; subst hg; exact lifted_sound hD N g args boxes r hr
    · simp at hr
/-- What the plain mode tells, as the deep one asks. -/
theorem lift_told {D : Oracle false} {keep : FuncId → Bool} {H : FuncId → Hints} {f : FuncId} (hk : keep f = false) {a : List (SV true)} {b : List (List (SV true))} {a' : List (SV false)} {b' : List (List (SV false))} {r' : SV false × List (List (SV false))} {r : SV true × List (List (SV true))}
    (h : D f a' b' = some r') (ha : a.map (reS er) = a') (hb : b.map (List.map (reS er)) = b') (hr : (reS li r'.1, r'.2.map (List.map (reS li))) = r) : den P (liftT D keep) H f a b = some r := by
  subst ha hb hr
  refine den_told (T := liftT D keep) (t := fun a b => lifted D f a b) (by simp [liftT, hk]) ?_
  simp [lifted, h]
end Go.Vs
end
section
/- A function's text taken in stretches, each under a setting of its own: where new memory begins, what is written. -/
namespace Go.Vs
variable {m : Bool} {P : Program}
def noLoop : Code → Bool
  | .seq a b => noLoop a && noLoop b
  | .cond _ a b => noLoop a && noLoop b
  | .block _ a => noLoop a
  | .loop _ => false
  | _ => true
/-- One piece after the other, so many, and no loop in them. -/
def spine : Nat → Code → Bool
  | 0, _ => true
  | n + 1, .seq a b => noLoop a && spine n b
  | _ + 1, _ => false
abbrev way (n : Nat) : List Nat := List.replicate n 1
section
variable {β : Type} {D : Oracle m} {H : Hints} {nm : List (List Nat)} {J : List Nat × St m → Option β}
theorem codeN_plain : ∀ (c : Code) (r : List Nat) (blk : Nat) (s : St m) (k : Out m → Option β), noLoop c = true → (∀ q : List Nat, nm.contains (q ++ r).reverse = false) → codeN P D H nm J r blk c s k = code2K P D H limR blk c s k
  | .seq a b, r, blk, s, k, hn, hr => by
    simp only [noLoop, Bool.and_eq_true] at hn
    have h0 : ∀ q : List Nat, nm.contains (q ++ (0 :: r)).reverse = false := fun q => by have := hr (q ++ [0]); rwa [List.append_assoc] at this
    have h1 : ∀ q : List Nat, nm.contains (q ++ (1 :: r)).reverse = false := fun q => by have := hr (q ++ [1]); rwa [List.append_assoc] at this
    have c0 : nm.contains (0 :: r).reverse = false := h0 []
    have c1 : nm.contains (1 :: r).reverse = false := h1 []
    simp only [codeN, code2K, c0, c1, Bool.false_eq_true, if_false]
    rw [codeN_plain a _ _ _ _ hn.1 h0]
    congr 1
    funext o
    cases o <;> simp only [seqK]
    exact codeN_plain b _ _ _ _ hn.2 h1
  | .cond c a b, r, blk, s, k, hn, hr => by
    simp only [noLoop, Bool.and_eq_true] at hn
    have h0 : ∀ q : List Nat, nm.contains (q ++ (0 :: r)).reverse = false := fun q => by have := hr (q ++ [0]); rwa [List.append_assoc] at this
    have h1 : ∀ q : List Nat, nm.contains (q ++ (1 :: r)).reverse = false := fun q => by have := hr (q ++ [1]); rwa [List.append_assoc] at this
    have c0 : nm.contains (0 :: r).reverse = false := h0 []
    have c1 : nm.contains (1 :: r).reverse = false := h1 []
    simp only [codeN, code2K, c0, c1, Bool.false_eq_true, if_false, forceSt_eq]
    congr 1
    funext t
    rw [codeN_plain a _ _ _ _ hn.1 h0, codeN_plain b _ _ _ _ hn.2 h1]
  | .block id a, r, blk, s, k, hn, hr => by
    simp only [noLoop] at hn
    have h0 : ∀ q : List Nat, nm.contains (q ++ (0 :: r)).reverse = false := fun q => by have := hr (q ++ [0]); rwa [List.append_assoc] at this
    have c0 : nm.contains (0 :: r).reverse = false := h0 []
    simp only [codeN, code2K, c0, Bool.false_eq_true, if_false]
    exact codeN_plain a _ _ _ _ hn h0
  | .loop a, _, _, _, _, hn, _ => by simp [noLoop] at hn
  | .skip, _, _, _, _, _, _ => rfl
  | .region .., _, _, _, _, _, _ => rfl
  | .exit _, _, _, _, _, _, _ => rfl
  | .ret, _, _, _, _, _, _ => rfl
  | .rangeFunc .., _, _, _, _, _, _ => rfl
  | .scope _, _, _, _, _, _, _ => rfl
  | .label _, _, _, _, _, _, _ => rfl
  | .goto _, _, _, _, _, _, _ => rfl
  | .refuse _, _, _, _, _, _, _ => rfl
theorem way_no {j : Nat} (q : List Nat) (r : List Nat) : ([way j] : List (List Nat)).contains (q ++ (0 :: r)).reverse = false := by
  rw [Bool.eq_false_iff]
  intro h
  have := List.eq_of_mem_singleton (List.contains_iff_mem.1 h)
  have h0 : (0 : Nat) ∈ (q ++ (0 :: r)).reverse := by simp
  rw [this] at h0
  have := List.eq_of_mem_replicate h0
  omega
theorem way_rev (j : Nat) : (way j).reverse = way j := List.reverse_replicate
theorem sub_nil (c : Code) : sub c [] = c := by cases c <;> rfl
theorem spine_sub : ∀ (j : Nat) (c : Code), spine j c = true → blkAt 0 c (way j) = 0
  | 0, c, _ => by cases c <;> rfl
  | j + 1, .seq a b, h => by
    simp only [spine, Bool.and_eq_true] at h
    simp only [way, List.replicate_succ, blkAt]
    exact spine_sub j b h.2
theorem spine_cont {kE : Out m → Option β} : ∀ (j : Nat) (r : List Nat) (c : Code), spine j c = true → contN P D H nm J r 0 c (way j) kE = kE
  | 0, r, c, _ => by cases c <;> rfl
  | j + 1, r, .seq a b, h => by
    simp only [spine, Bool.and_eq_true] at h
    simp only [way, List.replicate_succ, contN]
    exact spine_cont j _ b h.2
end
section
variable {D : Oracle m} {H : Hints} {nt : Nat} {β : Type}
/-- Code read quickly, run on the machine. -/
theorem quick_sound (hP : P.follows .mixedOrders = true) (hD : DSound P D) (hH : H.nt = nt) {L : Nat} (hL : nt ≤ L) {N : Env} {c : Code} {blk : Nat} {k : Out m → Option β} {y : β} {s : St m} {a : Act} {w : World} {F : Fr} {Ow : Own} {bm : Nat → Nat}
    {Q : Exit → Act → World → Prop} (hc : code2K P D H limR blk c s k = some y) (h : Inv P s a.tmps w F N Ow bm) (hl : s.boxes.length = L)
    (hk : ∀ out ex a' w', k out = some y → Ends P N nt L a w F Ow bm out ex a' w' → Q ex a' w') : c.wp P Q a w := by
  have h1 := code2_ref (P := P) (D := D) (H := H) up_limR c blk s k k y (fun _ h => h) hc
  rw [codeK_bind, Option.bind_eq_some_iff] at h1
  obtain ⟨o, ho, hko⟩ := h1
  obtain ⟨n, hn⟩ := codeK_lim (Dn := fun _ => D) (D := D) ⟨fun _ _ _ _ _ _ _ h => h, fun f a b r h => ⟨0, h⟩⟩ c blk s o ho
  refine code_sound hP hD hH n L hL c blk some o s a w F Ow bm Q (hn n (Nat.le_refl _)) h hl fun out ex a' w' he hend => ?_
  obtain rfl := Option.some.inj he
  exact hk _ _ _ _ hko hend
/-- So many pieces; what goes on behind them is told by J, and proved apart. -/
theorem spine_sound (hP : P.follows .mixedOrders = true) (hD : DSound P D) (hH : H.nt = nt) {L : Nat} (hL : nt ≤ L) {N : Env} {J : List Nat × St m → Option β} {k : Out m → Option β} {y : β} {Q : Exit → Act → World → Prop} :
    ∀ (n j : Nat) (c : Code) (s : St m) (a : Act) (w : World) (F : Fr) (Ow : Own) (bm : Nat → Nat), spine (n + 1) c = true → codeN P D H [way (j + (n + 1))] J (way j) 0 c s k = some y → Inv P s a.tmps w F N Ow bm → s.boxes.length = L →
    (∀ out ex a' w', k out = some y → (∀ s', out ≠ .norm s') → Ends P N nt L a w F Ow bm out ex a' w' → Q ex a' w') →
    (∀ s' a' w', J (way (j + (n + 1)), s') = some y → Step P N nt s' a w F Ow bm a' w' → s'.boxes.length = L → (sub c (way (n + 1))).wp P Q a' w') → c.wp P Q a w := by
  intro n
  induction n with
  | zero =>
    intro j c s a w F Ow bm hs hc h hl hk hJ
    cases c with
    | seq x y' =>
      simp only [spine, Bool.and_eq_true] at hs
      have c0 : ([way (j + 1)] : List (List Nat)).contains (0 :: way j).reverse = false := way_no [] (way j)
      have c1 : ([way (j + 1)] : List (List Nat)).contains (1 :: way j).reverse = true := by
        rw [show (1 :: way j) = way (j + 1) from rfl, way_rev]; simp
      have e1 : (1 :: way j).reverse = way (j + 1) := by rw [show (1 :: way j) = way (j + 1) from rfl, way_rev]
      simp only [codeN, Nat.zero_add, c0, c1, Bool.false_eq_true, if_false, if_true] at hc
      rw [codeN_plain x _ _ _ _ hs.1 fun q => way_no q (way j)] at hc
      refine wp_seq (quick_sound hP hD hH hL hc h hl fun out ex a' w' ho he => ?_)
      cases out <;> cases ex <;> simp only [Ends] at he
      · simp only [seqK, e1] at ho
        have := hJ _ a' w' ho he.1 he.2
        rw [show sub (x.seq y') (way (0 + 1)) = sub y' [] from rfl, sub_nil] at this
        exact this
      · exact hk _ _ _ _ ho (fun s' h => by cases h) he
      · exact hk _ _ _ _ ho (fun s' h => by cases h) he
    | _ => simp [spine] at hs
  | succ n ih =>
    intro j c s a w F Ow bm hs hc h hl hk hJ
    cases c with
    | seq x y' =>
      rw [spine, Bool.and_eq_true] at hs
      have c0 : ([way (j + (n + 1 + 1))] : List (List Nat)).contains (0 :: way j).reverse = false := way_no [] (way j)
      have c1 : ([way (j + (n + 1 + 1))] : List (List Nat)).contains (1 :: way j).reverse = false := by
        rw [show (1 :: way j) = way (j + 1) from rfl, way_rev, Bool.eq_false_iff]
        intro hh
        have := congrArg List.length (List.eq_of_mem_singleton (List.contains_iff_mem.1 hh))
        simp at this
      simp only [codeN, c0, c1, Bool.false_eq_true, if_false] at hc
      rw [codeN_plain x _ _ _ _ hs.1 fun q => way_no q (way j)] at hc
      refine wp_seq (quick_sound hP hD hH hL hc h hl fun out ex a' w' ho he => ?_)
      cases out <;> cases ex <;> simp only [Ends] at he
      · simp only [seqK] at ho
        obtain ⟨hst, hl'⟩ := he
        obtain ⟨F1, O1, b1, h1, htr⟩ := Ends.trans (L := L) hst
        obtain ⟨F2, O2, b2, h2, htr2⟩ := hst.inv
        refine ih (j + 1) y' _ a' w' F2 O2 b2 hs.2 (by rw [show j + 1 + (n + 1) = j + (n + 1 + 1) by omega]; exact ho) h2 hl' (fun out ex a2 w2 ho2 hne he2 => hk out ex a2 w2 ho2 hne ?_) fun s2 a2 w2 hJ2 hst2 hl2 => ?_
        · cases out <;> cases ex <;> simp only [Ends] at he2 ⊢
          · exact ⟨htr2 _ _ _ he2.1, he2.2⟩
          · exact ⟨he2.1, htr2 _ _ _ he2.2.1, he2.2.2⟩
          · exact ⟨htr2 _ _ _ he2.1, he2.2⟩
        · have := hJ s2 a2 w2 (by rw [show j + (n + 1 + 1) = j + 1 + (n + 1) by omega]; exact hJ2) (htr2 _ _ _ hst2) hl2
          exact this
      · exact hk _ _ _ _ ho (fun s' h => by cases h) he
      · exact hk _ _ _ _ ho (fun s' h => by cases h) he
    | _ => simp [spine] at hs
end
end Go.Vs

namespace Go.Vs
variable {m : Bool} {P : Program}
theorem spine_split : ∀ (j n : Nat) (c : Code), spine (j + n) c = true → spine j c = true ∧ spine n (sub c (way j)) = true
  | 0, n, c, h => ⟨rfl, by rw [show way 0 = [] from rfl, sub_nil]; simpa using h⟩
  | j + 1, n, .seq a b, h => by
    rw [show j + 1 + n = (j + n) + 1 by omega, spine, Bool.and_eq_true] at h
    obtain ⟨h1, h2⟩ := spine_split j n b h.2
    exact ⟨by rw [spine, h.1, h1]; rfl, h2⟩
  | j + 1, n, .skip, h => by rw [show j + 1 + n = (j + n) + 1 by omega] at h; simp [spine] at h
  | j + 1, n, .region .., h => by rw [show j + 1 + n = (j + n) + 1 by omega] at h; simp [spine] at h
  | j + 1, n, .cond .., h => by rw [show j + 1 + n = (j + n) + 1 by omega] at h; simp [spine] at h
  | j + 1, n, .block .., h => by rw [show j + 1 + n = (j + n) + 1 by omega] at h; simp [spine] at h
  | j + 1, n, .loop _, h => by rw [show j + 1 + n = (j + n) + 1 by omega] at h; simp [spine] at h
  | j + 1, n, .rangeFunc .., h => by rw [show j + 1 + n = (j + n) + 1 by omega] at h; simp [spine] at h
  | j + 1, n, .exit _, h => by rw [show j + 1 + n = (j + n) + 1 by omega] at h; simp [spine] at h
  | j + 1, n, .ret, h => by rw [show j + 1 + n = (j + n) + 1 by omega] at h; simp [spine] at h
  | j + 1, n, .scope _, h => by rw [show j + 1 + n = (j + n) + 1 by omega] at h; simp [spine] at h
  | j + 1, n, .label _, h => by rw [show j + 1 + n = (j + n) + 1 by omega] at h; simp [spine] at h
  | j + 1, n, .goto _, h => by rw [show j + 1 + n = (j + n) + 1 by omega] at h; simp [spine] at h
  | j + 1, n, .refuse _, h => by rw [show j + 1 + n = (j + n) + 1 by omega] at h; simp [spine] at h
theorem sub_way : ∀ (j n : Nat) (c : Code), sub c (way (j + n)) = sub (sub c (way j)) (way n) := fun j n c => by
  rw [show way (j + n) = way j ++ way n from (List.replicate_append_replicate (n := j) (m := n) (a := 1)).symm, sub_append]

/-- The frame of a law on its way: what was there before is as it was. -/
structure OnWay (P : Program) (fn : Func) (W : World) (N : Env) (s : St m) (a : Act) (w : World) (F : Fr) (Ow : Own) (bm : Nat → Nat) : Prop where
  inv : Inv P s a.tmps w F N Ow bm
  len : s.boxes.length = fn.ntmps
  defers : a.defers = []
  bel : Go.RowKit.Below W.heap.size W w
  own : ∀ g, g < W.heap.size → Ow g = none
  z : ∀ g, g < W.heap.size → N.Z g = false
/-- It answers true, and what was there before is as it was. -/
abbrev Good (W : World) : Ending → World → Prop := fun e w' => e = .returned (.bool true) ∧ Go.RowKit.Below W.heap.size W w'
abbrev yes : SV m × List (List (SV m)) := (.leaf (.bool true), [])
section
variable {D : Oracle m} {H : FuncId → Hints} {f : FuncId} {fn : Func} {c0 : Code} {W : World} {N : Env} {s : St m} {a : Act} {w : World} {F : Fr} {Ow : Own} {bm : Nat → Nat}
theorem OnWay.step {s' : St m} {a' : Act} {w' : World} (h : OnWay P fn W N s a w F Ow bm) (hst : Step P N fn.ntmps s' a w F Ow bm a' w') (hl : s'.boxes.length = fn.ntmps) :
    ∃ F' Ow' bm', OnWay P fn W N s' a' w' F' Ow' bm' ∧ Far N w F Ow w' F' Ow' := by
  obtain ⟨F1, O1, b1, k1, k2, k3, k4⟩ := hst
  refine ⟨F1, O1, b1, ⟨k1, hl, k4.trans h.defers, h.bel.trans ⟨k2.os, k2.tape, k2.output, k2.size, fun g hg => ?_⟩, fun g hg => ?_, h.z⟩, k2⟩
  · exact (k2.old g (Nat.lt_of_lt_of_le hg h.bel.size) (h.own g hg)).1 (h.z g hg)
  · exact (k2.old g (Nat.lt_of_lt_of_le hg h.bel.size) (h.own g hg)).2.2
theorem OnWay.back {a' : Act} {w' : World} {ex : Exit} {out : Out m} (h : OnWay P fn W N s a w F Ow bm) (ho : endK P fn 0 out = some yes) (he : Ends P N fn.ntmps fn.ntmps a w F Ow bm out ex a' w') : bodyPost P fn (Good W) ex a' w' := by
  have fin : ∀ s' : St m, leaveV P fn 0 s' = some yes → Step P N fn.ntmps s' a w F Ow bm a' w' → s'.boxes.length = fn.ntmps → a'.defers = [] ∧ ∃ v, (results fn a'.tmps).run P w' = .ok v w' ∧ Good W (.returned v) w' := by
    intro s' hl hst hlen
    obtain ⟨F1, O1, b1, k, _⟩ := h.step hst hlen
    obtain ⟨_, _, _, u, O2, F2, l4, l5, _⟩ := k.inv.leave hl
    refine ⟨k.defers, u, l4, ?_, k.bel⟩
    have := l5.slot 0
    have hv := repL_bool (b := true) (w := w') (F := F2) (N := N) (by simpa [RepS, RepF] using this)
    rw [hv]
  cases out <;> cases ex <;> simp only [Ends] at he
  · exact fin _ ho he.1 he.2
  · simp [endK] at ho
  · exact fin _ ho he.1 he.2
variable (hP : P.follows .mixedOrders = true) (hD : DSound P D) (hfn : P.funcs[f]? = some fn) (hc0 : fn.body = some c0)
include hP hD hfn hc0
omit hP hD in
theorem bodyOf_eq : bodyOf P f = c0 ∧ fnOf P f = fn := by
  unfold bodyOf fnOf; rw [hfn]; simp [hc0]
/-- A stretch that comes to its end. -/
theorem stretch {j n : Nat} (hsp : spine (j + (n + 1)) c0 = true) (h : OnWay P fn W N s a w F Ow bm) {s1 : St m}
    (hrun : ∀ J : List Nat × St m → Option (SV m × List (List (SV m))), nameF P D H f [way (j + (n + 1))] 0 J (way j, s) = J (way (j + (n + 1)), s1))
    (next : ∀ a' w' F' Ow' bm', OnWay P fn W N s1 a' w' F' Ow' bm' → Far N w F Ow w' F' Ow' → (sub c0 (way (j + (n + 1)))).wp P (bodyPost P fn (Good W)) a' w') :
    (sub c0 (way j)).wp P (bodyPost P fn (Good W)) a w := by
  classical
  obtain ⟨e1, e2⟩ := bodyOf_eq hfn hc0
  obtain ⟨hs1, hs2⟩ := spine_split j (n + 1) c0 hsp
  have hr := hrun fun x => if x.2 = s1 then some yes else none
  simp only [if_true] at hr
  unfold nameF at hr
  simp only [e1, e2, way_rev] at hr
  rw [spine_cont j [] c0 hs1, spine_sub j c0 hs1] at hr
  refine spine_sound (L := fn.ntmps) hP hD rfl (Nat.le_refl _) n j _ s a w F Ow bm hs2 hr h.inv h.len (fun out ex a' w' ho _ he => h.back ho he) fun s' a' w' hJ hst hl => ?_
  have : s' = s1 := by
    by_cases hx : s' = s1
    · exact hx
    · simp [hx] at hJ
  subst this
  obtain ⟨F1, O1, b1, k, kf⟩ := h.step hst hl
  rw [← sub_way]
  exact next a' w' F1 O1 b1 k kf
/-- A stretch in which the law is left. -/
theorem stretch_left {j n : Nat} (hsp : spine (j + (n + 1)) c0 = true) (h : OnWay P fn W N s a w F Ow bm)
    (hrun : ∀ J : List Nat × St m → Option (SV m × List (List (SV m))), nameF P D H f [way (j + (n + 1))] 0 J (way j, s) = some yes) :
    (sub c0 (way j)).wp P (bodyPost P fn (Good W)) a w := by
  obtain ⟨e1, e2⟩ := bodyOf_eq hfn hc0
  obtain ⟨hs1, hs2⟩ := spine_split j (n + 1) c0 hsp
  have hr := hrun fun x => none
  unfold nameF at hr
  simp only [e1, e2, way_rev] at hr
  rw [spine_cont j [] c0 hs1, spine_sub j c0 hs1] at hr
  exact spine_sound (L := fn.ntmps) hP hD rfl (Nat.le_refl _) n j _ s a w F Ow bm hs2 hr h.inv h.len (fun out ex a' w' ho _ he => h.back ho he) fun s' a' w' hJ _ _ => by simp at hJ
/-- The last one. -/
theorem stretch_last {j : Nat} (hsp : spine j c0 = true) (hnl : noLoop (sub c0 (way j)) = true) (h : OnWay P fn W N s a w F Ow bm)
    (hrun : ∀ J : List Nat × St m → Option (SV m × List (List (SV m))), nameF P D H f [] 0 J (way j, s) = some yes) :
    (sub c0 (way j)).wp P (bodyPost P fn (Good W)) a w := by
  obtain ⟨e1, e2⟩ := bodyOf_eq hfn hc0
  have hr := hrun fun x => none
  unfold nameF at hr
  simp only [e1, e2, way_rev] at hr
  rw [spine_cont j [] c0 hsp, spine_sub j c0 hsp, codeN_plain _ _ _ _ _ hnl (fun q => by simp)] at hr
  exact quick_sound (L := fn.ntmps) hP hD rfl (Nat.le_refl _) hr h.inv h.len fun out ex a' w' ho he => h.back ho he
end
end Go.Vs
end
section
/- Between two stretches: another setting of the memory; what is to be written is known no more; a slice becomes a row that one may write. -/
namespace Go.Vs
variable {P : Program}
mutual
/-- Slices with the flags σ become such that are written; the others bear the flag φ. -/
def tuF (φ : Fl true → Fl true) (σ : Fl true → Bool) : Bool → Leaf true → Leaf true
  | i, .bool b => if i then .unk else .bool b
  | i, .int k n => if i then .unk else .int k n
  | i, .str s => if i then .unk else .str s
  | _, .unk => .unk
  | i, .nl e => if i then .sl fSoft [] else .nl e
  | _, .sl c es => .sl (if σ c then fSoft else φ c) (tuE φ σ (σ c) es)
def tuL (φ : Fl true → Fl true) (σ : Fl true → Bool) : Bool → List (Leaf true) → List (Leaf true)
  | _, [] => []
  | i, l :: r => tuF φ σ i l :: tuL φ σ i r
def tuE (φ : Fl true → Fl true) (σ : Fl true → Bool) : Bool → List (List (Leaf true)) → List (List (Leaf true))
  | _, [] => []
  | i, e :: r => tuL φ σ i e :: tuE φ σ i r
end
variable {φ : Fl true → Fl true} {σ : Fl true → Bool}
theorem tuL_map (i : Bool) : ∀ l : List (Leaf true), tuL φ σ i l = l.map (tuF φ σ i)
  | [] => by rw [tuL]; rfl
  | l :: r => by rw [tuL, List.map_cons, tuL_map i r]
theorem tuE_map (i : Bool) : ∀ l : List (List (Leaf true)), tuE φ σ i l = l.map (tuL φ σ i)
  | [] => by rw [tuE]; rfl
  | l :: r => by rw [tuE, List.map_cons, tuE_map i r]
theorem tuL_length (i : Bool) (l : List (Leaf true)) : (tuL φ σ i l).length = l.length := by rw [tuL_map, List.length_map]
theorem tuE_length (i : Bool) (l : List (List (Leaf true))) : (tuE φ σ i l).length = l.length := by rw [tuE_map, List.length_map]
theorem tuE_flatten (i : Bool) : ∀ l : List (List (Leaf true)), (tuE φ σ i l).flatten = tuL φ σ i l.flatten
  | [] => by rw [tuE]; rfl
  | e :: r => by rw [tuE, List.flatten_cons, List.flatten_cons, tuE_flatten i r, tuL_map, tuL_map, tuL_map, List.map_append]
theorem tuF_soft (l : Leaf true) : (tuF φ σ true l).soft = true := by cases l <;> rfl
mutual
/-- All flags in a leaf. -/
def allF (p : Fl true → Bool) : Leaf true → Bool
  | .sl c es => p c && allE p es
  | _ => true
def allL (p : Fl true → Bool) : List (Leaf true) → Bool
  | [] => true
  | l :: r => allF p l && allL p r
def allE (p : Fl true → Bool) : List (List (Leaf true)) → Bool
  | [] => true
  | e :: r => allL p e && allE p r
end
mutual
theorem allF_true : ∀ l : Leaf true, allF (fun _ => true) l = true
  | .sl c es => by rw [allF, allE_true es]; rfl
  | .bool _ | .int _ _ | .str _ | .unk | .nl _ => by simp [allF]
theorem allL_true : ∀ l : List (Leaf true), allL (fun _ => true) l = true
  | [] => by rw [allL]
  | l :: r => by rw [allL, allF_true l, allL_true r]; rfl
theorem allE_true : ∀ l : List (List (Leaf true)), allE (fun _ => true) l = true
  | [] => by rw [allE]
  | l :: r => by rw [allE, allL_true l, allE_true r]; rfl
end
mutual
theorem allF_re {m : Bool} {p : Fl true → Bool} {c : Fl true} (h : p c = true) : ∀ l : Leaf m, allF p (reF (fun _ => c) l) = true
  | .sl _ es => by rw [reF, allF, h, allE_re h es]; rfl
  | .bool _ | .int _ _ | .str _ | .unk | .nl _ => by simp [reF, allF]
theorem allL_re {m : Bool} {p : Fl true → Bool} {c : Fl true} (h : p c = true) : ∀ l : List (Leaf m), allL p (reL (fun _ => c) l) = true
  | [] => by rw [reL, allL]
  | l :: r => by rw [reL, allL, allF_re h l, allL_re h r]; rfl
theorem allE_re {m : Bool} {p : Fl true → Bool} {c : Fl true} (h : p c = true) : ∀ l : List (List (Leaf m)), allE p (reE (fun _ => c) l) = true
  | [] => by rw [reE, allE]
  | l :: r => by rw [reE, allE, allL_re h l, allE_re h r]; rfl
end
theorem allL_mem {p : Fl true → Bool} : ∀ {l : List (Leaf true)}, allL p l = true → ∀ x ∈ l, allF p x = true
  | y :: r, h, x, hx => by
    rw [allL, Bool.and_eq_true] at h
    rcases List.mem_cons.1 hx with rfl | hx
    · exact h.1
    · exact allL_mem h.2 x hx
theorem allE_mem {p : Fl true → Bool} : ∀ {l : List (List (Leaf true))}, allE p l = true → ∀ x ∈ l.flatten, allF p x = true
  | e :: r, h, x, hx => by
    rw [allE, Bool.and_eq_true] at h
    rw [List.flatten_cons] at hx
    rcases List.mem_append.1 hx with hx | hx
    · exact allL_mem h.1 x hx
    · exact allE_mem h.2 x hx
/-- One flag for all. -/
abbrev fl (c : Fl true) : Fl false → Fl true := fun _ => c
mutual
/-- Data that is written. -/
def soF : Leaf false → Leaf true
  | .bool _ => .unk
  | .int _ _ => .unk
  | .str _ => .unk
  | .unk => .unk
  | .nl _ => .sl fSoft []
  | .sl _ es => .sl fSoft (soE es)
def soL : List (Leaf false) → List (Leaf true)
  | [] => []
  | l :: r => soF l :: soL r
def soE : List (List (Leaf false)) → List (List (Leaf true))
  | [] => []
  | e :: r => soL e :: soE r
end
mutual
theorem tuF_fl {c : Fl true} (h : σ c = false) : ∀ l : Leaf false, tuF φ σ false (reF (fl c) l) = reF (fl (φ c)) l
  | .sl _ es => by rw [reF, tuF, h, tuE_fl h es, reF]; rfl
  | .bool _ | .int _ _ | .str _ | .unk | .nl _ => by simp [reF, tuF]
theorem tuL_fl {c : Fl true} (h : σ c = false) : ∀ l : List (Leaf false), tuL φ σ false (reL (fl c) l) = reL (fl (φ c)) l
  | [] => by rw [reL, tuL, reL]
  | l :: r => by rw [reL, tuL, tuF_fl h l, tuL_fl h r, reL]
theorem tuE_fl {c : Fl true} (h : σ c = false) : ∀ l : List (List (Leaf false)), tuE φ σ false (reE (fl c) l) = reE (fl (φ c)) l
  | [] => by rw [reE, tuE, reE]
  | l :: r => by rw [reE, tuE, tuL_fl h l, tuE_fl h r, reE]
end
mutual
theorem tuF_so {c : Fl true} (h : σ c = true) : ∀ l : Leaf false, tuF φ σ true (reF (fl c) l) = soF l
  | .sl _ es => by rw [reF, tuF, h, tuE_so h es, soF]; rfl
  | .bool _ | .int _ _ | .str _ | .unk | .nl _ => by simp [reF, tuF, soF]
theorem tuL_so {c : Fl true} (h : σ c = true) : ∀ l : List (Leaf false), tuL φ σ true (reL (fl c) l) = soL l
  | [] => by rw [reL, tuL, soL]
  | l :: r => by rw [reL, tuL, tuF_so h l, tuL_so h r, soL]
theorem tuE_so {c : Fl true} (h : σ c = true) : ∀ l : List (List (Leaf false)), tuE φ σ true (reE (fl c) l) = soE l
  | [] => by rw [reE, tuE, soE]
  | l :: r => by rw [reE, tuE, tuL_so h l, tuE_so h r, soE]
end
def TuOk (p : Fl true → Bool) (φ : Fl true → Fl true) (σ : Fl true → Bool) (w : World) (F : Fr) (N : Env) (F' : Fr) (N' : Env) : Prop :=
  ∀ (c : Fl true) (g o : Nat), p c = true → g < w.heap.size → c.Holds N w g o → F g ≤ F' g ∧ ((σ c = true ∧ N'.Z g = true) ∨ (σ c = false ∧ (φ c).Holds N' w g o ∧ (φ c).isSoft = false ∧ N'.Z g = false))
theorem RepL.tu {p : Fl true → Bool} {w : World} {F F' : Fr} {N N' : Env} (hok : TuOk p φ σ w F N F' N') {l : Leaf true} {v : Value} (h : RepL w F N l v) : allF p l = true → ∀ i, RepL w F' N' (tuF φ σ i l) v := by
  induction h with
  | bool b => intro _ i; cases i <;> simp only [tuF] <;> first | exact .bool b | exact .unk _ rfl
  | int k n => intro _ i; cases i <;> simp only [tuF] <;> first | exact .int k n | exact .unk _ rfl
  | str s => intro _ i; cases i <;> simp only [tuF] <;> first | exact .str s | exact .unk _ rfl
  | unk v h => intro _ i; rw [tuF]; exact .unk v h
  | nl e =>
    intro _ i
    cases i <;> simp only [tuF]
    · exact .nl e
    · exact repL_sl_mk (es := []) (z := 0) (vals := []) (Nat.le_refl _) (by simp) (fun h => by simp at h) (RepR.nil _ _ _)
  | sl c es A cap z vals hc hz hv hcell hr ih =>
    intro hp i
    rw [allF, Bool.and_eq_true] at hp
    rw [tuF]
    have hl : (tuE φ σ (σ c) es).length = es.length := tuE_length _ es
    rw [← hl]
    refine .sl _ _ A cap z vals (by rw [hl]; exact hc) (fun e he => ?_) (by rw [hl]; exact hv) (fun hpos => ?_) (fun j l v h1 h2 => ?_)
    · rw [tuE_map] at he
      obtain ⟨e0, he0, rfl⟩ := List.mem_map.1 he
      rw [tuL_length]; exact hz e0 he0
    · rw [hl] at hpos
      obtain ⟨g, o, e, ⟨hv0, hn⟩, hle, hso, hcl⟩ := hcell hpos
      obtain ⟨h1, h2⟩ := hok c g o hp.1 (cell_lt (hcl 0 _ (List.getElem?_eq_getElem hv0))) hn
      rcases h2 with ⟨hs, hZ⟩ | ⟨hs, hH, hS, hZ⟩
      · refine ⟨g, o, e, ⟨hv0, by rw [hs]; trivial⟩, Nat.le_trans hle h1, ⟨fun _ => hZ, fun _ l hl' => ?_⟩, hcl⟩
        rw [tuE_flatten, tuL_map, hs] at hl'
        obtain ⟨l0, _, rfl⟩ := List.mem_map.1 hl'
        exact tuF_soft l0
      · refine ⟨g, o, e, ⟨hv0, by rw [hs]; exact hH⟩, Nat.le_trans hle h1, ⟨fun h => ?_, fun h => by rw [hZ] at h; simp at h⟩, hcl⟩
        rw [hs] at h
        simp only [Bool.false_eq_true, if_false] at h
        rw [hS] at h; simp at h
    · rw [tuE_flatten, tuL_map, List.getElem?_map, Option.map_eq_some_iff] at h1
      obtain ⟨l0, hl0, rfl⟩ := h1
      exact ih j l0 v hl0 h2 (allE_mem hp.2 l0 (List.mem_of_getElem? hl0)) _
/-- A slot in the next stretch. -/
def tuS (φ : Fl true → Fl true) (σ : Fl true → Bool) : SV true → SV true
  | .leaf l => .leaf (tuF φ σ false l)
  | .own _ es => .leaf (tuF φ σ false (.sl (Fl.new true) es))
  | _ => .any
/-- Flags of what a slot holds. -/
def slotOk (p : Fl true → Bool) : SV true → Bool
  | .leaf l => allF p l
  | .own _ es => p (Fl.new true) && allE p es
  | _ => true
theorem tuS_rep {p : Fl true → Bool} {w : World} {F F' : Fr} {N N' : Env} (hok : TuOk p φ σ w F N F' N') {Ow : Own} {bm : Nat → Nat} {al : Nat → Bool} {loc : Loc} {x : SV true} {v : Value} (hx : slotOk p x = true) (h : RepS P w F N Ow bm al loc x v) :
    tuS φ σ x = .any ∨ ∃ l, tuS φ σ x = .leaf l ∧ RepL w F' N' l v := by
  cases x with
  | leaf l => exact .inr ⟨_, rfl, RepL.tu hok (show RepL w F N l v by simpa [RepS, RepF] using h) hx false⟩
  | own e es => exact .inr ⟨_, rfl, RepL.tu hok (RepO.leaf h) (by rw [allF]; exact hx) false⟩
  | _ => exact .inl rfl
/-- All slots, but those of a list. -/
def tuT (φ : Fl true → Fl true) (σ : Fl true → Bool) (ds : List Nat) : Nat → List (SV true) → List (SV true)
  | _, [] => []
  | i, x :: r => (if ds.contains i then .any else tuS φ σ x) :: tuT φ σ ds (i + 1) r
theorem tuT_length (ds : List Nat) : ∀ (i : Nat) (l : List (SV true)), (tuT φ σ ds i l).length = l.length
  | _, [] => rfl
  | i, x :: r => by rw [tuT, List.length_cons, List.length_cons, tuT_length ds (i + 1) r]
theorem tuT_get (ds : List Nat) : ∀ (i : Nat) (l : List (SV true)) (t : Nat), (tuT φ σ ds i l).getD t .any = .any ∨ (ds.contains (i + t) = false ∧ (tuT φ σ ds i l).getD t .any = tuS φ σ (l.getD t .any))
  | i, [], t => by left; simp [tuT]
  | i, x :: r, 0 => by
    cases h : ds.contains i with
    | true => left; simp only [tuT, h, if_true]; rfl
    | false => right; exact ⟨rfl, by simp only [tuT, h]; rfl⟩
  | i, x :: r, t + 1 => by
    have := tuT_get ds (i + 1) r t
    rw [show i + 1 + t = i + (t + 1) by omega] at this
    simpa [tuT] using this
def turn (φ : Fl true → Fl true) (σ : Fl true → Bool) (ds : List Nat) (s : St true) : St true := { tmps := tuT φ σ ds 0 s.tmps, boxes := s.boxes.map fun _ => none }
/-- Flags of the slots that are kept. -/
def slotsOk (p : Fl true → Bool) (ds : List Nat) : Nat → List (SV true) → Bool
  | _, [] => true
  | i, x :: r => (ds.contains i || slotOk p x) && slotsOk p ds (i + 1) r
theorem slotsOk_get {p : Fl true → Bool} (ds : List Nat) : ∀ (i : Nat) (l : List (SV true)) (t : Nat), slotsOk p ds i l = true → ds.contains (i + t) = false → slotOk p (l.getD t .any) = true
  | _, [], t, _, _ => by simp [slotOk]
  | i, x :: r, 0, h, hd => by
    simp only [slotsOk, Bool.and_eq_true] at h
    rw [Nat.add_zero] at hd
    have := h.1; rw [hd] at this; simpa using this
  | i, x :: r, t + 1, h, hd => by
    simp only [slotsOk, Bool.and_eq_true] at h
    have := slotsOk_get ds (i + 1) r t h.2 (by rw [show i + 1 + t = i + (t + 1) by omega]; exact hd)
    simpa using this
theorem boxAt_none (bs : Boxes true) (b : Nat) : boxAt (m := true) (bs.map fun _ => none) b = none := by
  unfold boxAt
  rw [List.getD_eq_getElem?_getD, List.getElem?_map]
  cases bs[b]? <;> rfl
section
variable {fn : Func} {W : World} {N N' : Env} {s : St true} {a : Act} {w : World} {F F' : Fr} {Ow : Own} {bm : Nat → Nat}
theorem OnWay.turn (h : OnWay P fn W N s a w F Ow bm) (φ : Fl true → Fl true) (σ : Fl true → Bool) (ds : List Nat) (p : Fl true → Bool) (hsl : slotsOk p ds 0 s.tmps = true) (hok : TuOk p φ σ w F N F' N') (hn : N'.n ≤ w.heap.size) (hF : ∀ g, w.heap.size ≤ g → F' g = 0)
    (hz : ∀ g, N'.Z g = true → W.heap.size ≤ g ∧ Thawed w g) : OnWay P fn W N' (turn φ σ ds s) a w F' (fun _ => none) (fun _ => w.heap.size) := by
  refine ⟨⟨by show (tuT φ σ ds 0 s.tmps).length = _; rw [tuT_length]; exact h.inv.len, fun t => ?_, fun b cs hb => ?_, hn, fun g hg => ⟨hF g hg, rfl⟩, fun b cs hb => ?_, fun g hg => ⟨rfl, (hz g hg).2⟩⟩, by show (s.boxes.map _).length = _; rw [List.length_map]; exact h.len, h.defers, h.bel, fun _ _ => rfl, fun g hg => ?_⟩
  · show RepS P w F' N' _ _ _ _ ((tuT φ σ ds 0 s.tmps).getD t .any) _
    rcases tuT_get (φ := φ) (σ := σ) ds 0 s.tmps t with h1 | ⟨h0, h1⟩
    · rw [h1]; exact RepS.any
    · rw [h1]
      rcases tuS_rep hok (slotsOk_get ds 0 s.tmps t hsl h0) (h.inv.slot t) with h2 | ⟨l, h2, h3⟩
      · rw [h2]; exact RepS.any
      · rw [h2]; exact RepS.leaf h3
  · rw [show (Vs.turn φ σ ds s).boxes = s.boxes.map fun _ => none from rfl, boxAt_none] at hb; simp at hb
  · rw [show (Vs.turn φ σ ds s).boxes = s.boxes.map fun _ => none from rfl, boxAt_none] at hb; simp at hb
  · cases hZ : N'.Z g with
    | false => rfl
    | true => have := (hz g hZ).1; omega
/-- The state with a slot as a row of cells of which nothing is known. -/
def rowSt (s : St true) (t z n k : Nat) : St true := { tmps := s.tmps.set t (.bsl t z 0 n), boxes := s.boxes.set t (some (List.replicate k .any)) }
theorem OnWay.row (h : OnWay P fn W N s a w F Ow bm) (φ : Fl true → Fl true) (ds : List Nat) (p : Fl true → Bool) {t : Nat} (ht : t < s.tmps.length) (ht2 : t < fn.ntmps) {c : Fl true} {es : List (List (Leaf true))} {z : Nat}
    (hslot : s.tmps.getD t .any = .leaf (.sl c es)) (hpos : 0 < es.length) (hez : ∀ e ∈ es, e.length = z) (hsl : slotsOk p ds 0 s.tmps = true)
    (hc : ∀ g o, g < w.heap.size → c.Holds N w g o → o = 0 ∧ Thawed w g ∧ N'.n ≤ g ∧ W.heap.size ≤ g ∧ ∀ c' o', p c' = true → ¬ c'.Holds N w g o')
    (hp : ∀ c g o, p c = true → c.Holds N w g o → (φ c).Holds N' w g o ∧ (φ c).isSoft = false) (hZ : ∀ g, N'.Z g = false) (hn : N'.n ≤ w.heap.size) :
    ∃ k F' Ow' bm', es.length * z ≤ k ∧ OnWay P fn W N' (rowSt (Vs.turn φ (fun _ => false) ds s) t z es.length k) a w F' Ow' bm' := by
  have hs := h.inv.slot t
  rw [hslot] at hs
  obtain ⟨A, cap, z', vals, hv, hcap, hz', hvl, hcell, hr⟩ := repL_sl (show RepL w F N (.sl c es) (a.tmps.getD t undef) by simpa [RepS, RepF] using hs)
  obtain ⟨g, o, rfl, ⟨hv0, hH⟩, hle, hso, hcl⟩ := hcell hpos
  have hzz : z' = z := by
    obtain ⟨e, he⟩ : ∃ e, e ∈ es := by cases es with | nil => simp at hpos | cons e r => exact ⟨e, by simp⟩
    rw [← hz' e he, hez e he]
  subst hzz
  have hg := cell_lt (hcl 0 _ (List.getElem?_eq_getElem hv0))
  obtain ⟨rfl, ⟨cur, et, hcur⟩, hn1, hn2, hne⟩ := hc g o hg hH
  have hk : es.length * z' ≤ cur.size := by
    rw [← hvl]
    have := hcl (vals.length - 1) _ (List.getElem?_eq_getElem (by omega))
    simp only [World.cell?, hcur] at this
    have := (Array.getElem?_eq_some_iff.1 (by simpa using this)).1
    omega
  have hok : TuOk p φ (fun _ => false) w F N (fun x => if x = g then 0 else F x) N' := by
    intro c' g' o' hp' hg' hH'
    have hgg : g' ≠ g := fun e => (hne c' o' hp') (e ▸ hH')
    obtain ⟨h1, h2⟩ := hp c' g' o' hp' hH'
    exact ⟨by simp [hgg], .inr ⟨rfl, h1, h2, hZ g'⟩⟩
  have hb : ∀ b cs, boxAt (rowSt (Vs.turn φ (fun _ => false) ds s) t z' es.length cur.size).boxes b = some cs → b = t ∧ cs = List.replicate cur.size .any := by
    intro b cs hb
    have hb' : boxAt ((s.boxes.map fun _ => none).set t (some (List.replicate cur.size SV.any))) b = some cs := hb
    by_cases hbt : b = t
    · subst hbt
      rw [boxAt_set_self (by rw [List.length_map, h.len]; exact ht2)] at hb'
      exact ⟨rfl, (Option.some.inj hb').symm⟩
    · rw [boxAt_set_ne hbt, boxAt_none] at hb'; simp at hb'
  have hal : (boxAt (rowSt (Vs.turn φ (fun _ => false) ds s) t z' es.length cur.size).boxes t).isSome = true := by
    show (boxAt ((s.boxes.map fun _ => none).set t (some (List.replicate cur.size SV.any))) t).isSome = true
    rw [boxAt_set_self (by rw [List.length_map, h.len]; exact ht2)]; rfl
  refine ⟨cur.size, fun x => if x = g then 0 else F x, fun x => if x = g then some (.blk t) else none, fun _ => g, hk, ⟨⟨?_, fun u => ?_, fun b cs hbc => ?_, hn, fun x hx => ?_, fun b cs hbc => hn1, fun x hx => by rw [hZ] at hx; simp at hx⟩, ?_, h.defers, h.bel, fun x hx => ?_, fun x hx => hZ x⟩⟩
  · show ((tuT φ (fun _ => false) ds 0 s.tmps).set t _).length = _
    rw [List.length_set, tuT_length]; exact h.inv.len
  · show RepS P w _ N' _ _ _ _ (((tuT φ (fun _ => false) ds 0 s.tmps).set t (.bsl t z' 0 es.length)).getD u .any) _
    by_cases hut : u = t
    · subst hut
      rw [List.getD_eq_getElem?_getD, List.getElem?_set_self (by rw [tuT_length]; exact ht), Option.getD_some, hv]
      simp only [RepS, RepF]
      exact ⟨cap, by simp, hcap, hal⟩
    · rw [List.getD_eq_getElem?_getD, List.getElem?_set_ne (fun e => hut e.symm), ← List.getD_eq_getElem?_getD]
      rcases tuT_get (φ := φ) (σ := fun _ => false) ds 0 s.tmps u with h1 | ⟨h0, h1⟩
      · rw [h1]; exact RepS.any
      · rw [h1]
        rcases tuS_rep hok (slotsOk_get ds 0 s.tmps u hsl h0) (h.inv.slot u) with h2 | ⟨l, h2, h3⟩
        · rw [h2]; exact RepS.any
        · rw [h2]; exact RepS.leaf h3
  · obtain ⟨rfl, rfl⟩ := hb b cs hbc
    refine ⟨cur, et, hcur, by rw [List.length_replicate], by simp, by simp, fun j c u h1 _ => ?_⟩
    have : c = .any := by
      rw [List.getElem?_replicate] at h1
      split at h1 <;> simp at h1
      exact h1.symm
    subst this
    exact RepS.any
  · have hx' : x ≠ g := fun e => by subst e; omega
    simp [hx', (h.inv.new x hx).1]
  · show ((s.boxes.map _).set t _).length = _
    rw [List.length_set, List.length_map]; exact h.len
  · have : x ≠ g := fun e => by subst e; omega
    simp [this]
end
end Go.Vs
end
section
/- A law with marks: how it begins, and its settings of the memory. -/
set_option linter.unusedVariables false
namespace Go.Vs
variable {m : Bool} {P : Program} {f : FuncId} {fn : Func} {c0 : Code}
theorem law_on (hfn : P.funcs[f]? = some fn) (hc0 : fn.body = some c0) {args : List (SV m)} {W : World} {vals : Array Value} (hl : args.length = vals.size) (hh : args.all SV.handed = true)
    (hr : ∀ j a v, args[j]? = some a → vals[j]? = some v → RepS P W (sealW W) (N0 W) (fun _ => none) (fun _ => W.heap.size) (fun _ => false) (.tmp j) a v)
    (next : ∀ a : Act, OnWay P fn W (N0 W) (enterV fn args []) a W (sealW W) (fun _ => none) (fun _ => W.heap.size) → (sub c0 (way 0)).wp P (bodyPost P fn (Good W)) a W) : Calls P f vals W (Good W) := by
  refine calls_of_wp hfn hc0 ?_
  have hinv : Inv P { tmps := args, boxes := ([] : List (List (SV m))).map some } vals W (sealW W) (N0 W) (fun _ => none) (fun _ => W.heap.size) := by
    refine ⟨hl, fun t => ?_, fun b cs hb => ?_, Nat.le_refl _, fun g hg => ⟨?_, rfl⟩, fun b cs hb => ?_, fun g hg => ?_⟩
    · by_cases ht : t < args.length
      · have := hr t _ _ (List.getElem?_eq_getElem ht) (Array.getElem?_eq_getElem (by omega))
        simp only [List.getD, List.getElem?_eq_getElem ht, Option.getD_some, Array.getD, show t < vals.size by omega, dif_pos]
        exact this.keeps (Keeps.refl _ _) (fun b hb => by simp at hb) (fun g hg => by simp at hg)
      · simp only [List.getD, List.getElem?_eq_none (Nat.not_lt.1 ht), Option.getD_none]
        exact RepS.any
    · simp [boxAt] at hb
    · unfold sealW
      rw [Array.getElem?_eq_none hg]
    · simp [boxAt] at hb
    · simp [N0] at hg
  have h1 := hinv.frame fn hh (by simp)
  have := next { tmps := vals ++ Array.replicate (fn.ntmps - vals.size) undef, defers := [] } ⟨by simpa using h1, by simp [enterV], rfl, Go.RowKit.Below.refl _ _, fun _ _ => rfl, fun _ _ => rfl⟩
  rw [show way 0 = [] from rfl, sub_nil] at this
  exact this
/-! The settings, one after the other. A: size where x begins; B: size where it ends; C: size behind the answer. -/
/-- Where what is copied begins: all there is lies below. -/
def N1 (A : Nat) : Env := { n := A, Z := fun _ => false, lt := fun g h => by simp at h, T := fun k g => k == 0 && decide (g < A) }
/-- The copies lie from A to B. -/
def N2 (A B : Nat) : Env := { n := B, Z := fun _ => false, lt := fun g h => by simp at h, T := fun k g => (k == 0 && decide (g < A)) || (k == 1 && decide (A ≤ g) && decide (g < B)) }
open Classical in
/-- They are written; the answer lies from B on. -/
noncomputable def N3 (w : World) (A B : Nat) (hB : B ≤ w.heap.size) : Env := { n := w.heap.size, Z := fun g => decide (A ≤ g ∧ g < B ∧ Thawed w g), lt := fun g h => by have := of_decide_eq_true h; omega, T := fun k g => (k == 0 && decide (g < A)) || (k == 2 && decide (B ≤ g)) }
/-- The answer is written. -/
def N4 (A B : Nat) : Env := { n := B, Z := fun _ => false, lt := fun g h => by simp at h, T := fun k g => k == 0 && decide (g < A) }
abbrev tA : Fl true := Flag.tag 0 false
abbrev tX : Fl true := Flag.tag 1 true
abbrev tG : Fl true := Flag.tag 2 true
/-- From the beginning to the copies. -/
def φ1 : Fl true → Fl true := fun _ => tA
def φ2 : Fl true → Fl true := fun c => match c with | Flag.new => tX | _ => tA
def φ3 : Fl true → Fl true := fun c => match c with | Flag.new => tG | _ => tA
def σ3 : Fl true → Bool := fun c => match c with | Flag.tag 1 _ => true | _ => false
def φ4 : Fl true → Fl true := fun _ => tA
def p4 : Fl true → Bool := fun c => match c with | Flag.tag 0 _ => true | _ => false
def p2 : Fl true → Bool := fun c => match c with | Flag.new => true | Flag.tag 0 _ => true | _ => false
def p3 : Fl true → Bool := fun c => match c with | Flag.new => true | Flag.tag 0 _ => true | Flag.tag 1 f => f | _ => false
theorem slotsOk_true (ds : List Nat) : ∀ (i : Nat) (l : List (SV true)), slotsOk (fun _ => true) ds i l = true
  | _, [] => rfl
  | i, x :: r => by
    rw [slotsOk, slotsOk_true ds (i + 1) r]
    cases x <;> simp [slotOk, allF_true, allE_true]
section
variable {W w : World} {N : Env} {s : St true} {a : Act} {F : Fr} {Ow : Own} {bm : Nat → Nat}
theorem turn1 (h : OnWay P fn W N s a w F Ow bm) (ds : List Nat) : OnWay P fn W (N1 w.heap.size) (Vs.turn φ1 (fun _ => false) ds s) a w F (fun _ => none) (fun _ => w.heap.size) :=
  h.turn φ1 (fun _ => false) ds (fun _ => true) (slotsOk_true _ _ _) (fun c g o _ hg _ => ⟨Nat.le_refl _, .inr ⟨rfl, ⟨by simp [N1, hg], fun h => by cases h⟩, rfl, rfl⟩⟩) (Nat.le_refl _) (fun g hg => (h.inv.new g hg).1) (fun g hg => by simp [N1] at hg)
theorem turn2 {A : Nat} (h : OnWay P fn W (N1 A) s a w F Ow bm) (ds : List Nat) (hsl : slotsOk p2 ds 0 s.tmps = true) : OnWay P fn W (N2 A w.heap.size) (Vs.turn φ2 (fun _ => false) ds s) a w F (fun _ => none) (fun _ => w.heap.size) :=
  h.turn φ2 (fun _ => false) ds p2 hsl (fun c g o hc hg hH => by
    refine ⟨Nat.le_refl _, .inr ⟨rfl, ?_, ?_, rfl⟩⟩
    · cases c with
      | new => obtain ⟨h1, h2, h3⟩ := hH; exact ⟨by simp only [N2]; simp [hg]; exact h1, fun _ => ⟨h2, h3⟩⟩
      | tag k f =>
        rcases k with _ | k
        · exact ⟨by have := hH.1; simp only [N1, N2] at this ⊢; simp at this ⊢; exact this, fun h => by cases h⟩
        · cases (show false = true from hc)
      | _ => cases (show false = true from hc)
    · cases c <;> rfl) (Nat.le_refl _) (fun g hg => (h.inv.new g hg).1) (fun g hg => by simp [N2] at hg)
open Classical in
theorem turn3 {A B : Nat} (h : OnWay P fn W (N2 A B) s a w F Ow bm) (hA : W.heap.size ≤ A) (hB : B ≤ w.heap.size) (hAB : A ≤ B) (ds : List Nat) (hsl : slotsOk p3 ds 0 s.tmps = true) : OnWay P fn W (N3 w A B hB) (Vs.turn φ3 σ3 ds s) a w F (fun _ => none) (fun _ => w.heap.size) :=
  h.turn φ3 σ3 ds p3 hsl (fun c g o hc hg hH => by
    refine ⟨Nat.le_refl _, ?_⟩
    cases c with
    | new =>
      obtain ⟨h1, h2, h3⟩ := hH
      have h1' : B ≤ g := h1
      exact .inr ⟨rfl, ⟨by simp only [N3]; simp [h1'], fun _ => ⟨h2, h3⟩⟩, rfl, by simp only [N3]; exact decide_eq_false (fun h => by omega)⟩
    | tag k f =>
      rcases k with _ | _ | k
      · have h0 := hH.1
        simp only [N2] at h0
        simp at h0
        exact .inr ⟨rfl, ⟨by simp only [N3]; simp [h0], fun h => by cases h⟩, rfl, by simp only [N3]; exact decide_eq_false (fun h => by omega)⟩
      · have h0 := hH.1
        simp only [N2] at h0
        simp at h0
        cases f with
        | true => exact .inl ⟨rfl, by simp only [N3]; exact decide_eq_true ⟨h0.1, h0.2, (hH.2 rfl).2⟩⟩
        | false => cases (show false = true from hc)
      · cases (show false = true from hc)
    | _ => cases (show false = true from hc)) (Nat.le_refl _) (fun g hg => (h.inv.new g hg).1) (fun g hg => by
      simp only [N3] at hg
      have := of_decide_eq_true hg
      exact ⟨by omega, this.2.2⟩)
open Classical in
theorem turn4 {A B : Nat} {w0 : World} {hB0 : B ≤ w0.heap.size} (h : OnWay P fn W (N3 w0 A B hB0) s a w F Ow bm) (hA : W.heap.size ≤ A) (hB : B ≤ w.heap.size) (hAB : A ≤ B) (ds : List Nat) {t : Nat} (ht : t < s.tmps.length) (ht2 : t < fn.ntmps) {es : List (List (Leaf true))} {z : Nat}
    (hslot : s.tmps.getD t .any = .leaf (.sl tG es)) (hpos : 0 < es.length) (hez : ∀ e ∈ es, e.length = z) (hsl : slotsOk p4 ds 0 s.tmps = true) :
    ∃ k F' Ow' bm', es.length * z ≤ k ∧ OnWay P fn W (N4 A B) (rowSt (Vs.turn φ4 (fun _ => false) ds s) t z es.length k) a w F' Ow' bm' :=
  h.row φ4 ds p4 ht ht2 hslot hpos hez hsl (fun g o hg hH => by
    have h0 := hH.1
    simp only [N3] at h0
    simp at h0
    refine ⟨(hH.2 rfl).1, (hH.2 rfl).2, h0, by omega, fun c' o' hc' hH' => ?_⟩
    cases c' with
    | tag k f =>
      rcases k with _ | k
      · have h1 := hH'.1
        simp only [N3] at h1
        simp at h1
        omega
      · cases (show false = true from hc')
    | _ => cases (show false = true from hc')) (fun c g o hc hH => by
    refine ⟨?_, rfl⟩
    cases c with
    | tag k f =>
      rcases k with _ | k
      · have h1 := hH.1
        simp only [N3] at h1
        simp at h1
        exact ⟨by simp only [N4]; simp [h1], fun h => by cases h⟩
      · cases (show false = true from hc)
    | _ => cases (show false = true from hc)) (fun _ => rfl) hB
end
end Go.Vs
end
