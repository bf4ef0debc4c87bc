/- A function's code read up to named places: what goes on there is told by a function of its own. -/
import Derived.Test.YtdnbagcbdagofaaVVsAt
namespace Go.Vs
variable {m : Bool}
section
variable {β : Type}
/-- The piece c, which lies at the place r (told backwards); pieces at the places nm, and loops, are left to J. -/
def codeN (P : Program) (D : (Oracle m)) (H : Hints) (nm : List (List Nat)) (J : List Nat × (St m) → Option β) : List Nat → Nat → Code → (St m) → ((Out m) → Option β) → Option β
  | _, _, .skip, s, k => k (.norm s)
  | _, _, .region id ops draw, s, k => guarded (!draw || okRegion (H.mv id) (H.pure id) (H.take id) ops) (steps2K P D H.nt (H.mv id) (H.pure id) (H.take id) ops ops.toList 0 s fun s' => forceSt (s'.tidy (H.after id) (H.afterB id)) fun s' => k (.norm s'))
  | r, blk, .seq a b, s, k =>
    if nm.contains (0 :: r).reverse then J ((0 :: r).reverse, s) else codeN P D H nm J (0 :: r) blk a s (seqK (fun s' => if nm.contains (1 :: r).reverse then J ((1 :: r).reverse, s') else codeN P D H nm J (1 :: r) blk b s' k) k)
  | r, blk, .cond c a b, s, k => onBool (s.eval c) fun t => branch t
      (forceSt (s.dropC H.condA c) fun s => if nm.contains (0 :: r).reverse then J ((0 :: r).reverse, s) else codeN P D H nm J (0 :: r) blk a s k)
      (forceSt (s.dropC H.condB c) fun s => if nm.contains (1 :: r).reverse then J ((1 :: r).reverse, s) else codeN P D H nm J (1 :: r) blk b s k)
  | r, _, .block id a, s, k => if nm.contains (0 :: r).reverse then J ((0 :: r).reverse, s) else codeN P D H nm J (0 :: r) id a s (blockK id k)
  | r, blk, .loop a, s, k => (s.again (H.clear blk) (H.drop blk)).bind fun s => if nm.contains (0 :: r).reverse then J ((0 :: r).reverse, s) else codeN P D H nm J (0 :: r) blk a s (loopK2 (H.clear blk) (H.drop blk) (fun s => J (r.reverse, s)) k)
  | _, _, .exit id, s, k => k (.exit id s)
  | _, _, .ret, s, k => k (.ret s)
  | _, _, _, _, _ => none

theorem sub_append : ∀ (p : List Nat) (c : Code) (q : List Nat), sub c (p ++ q) = sub (sub c p) q
  | [], c, q => by simp [sub]
  | n :: p, c, q => by
    cases c <;> simp only [List.cons_append, sub]
    case seq a b => split <;> exact sub_append p _ q
    case cond x a b => split <;> exact sub_append p _ q
    case block id a => exact sub_append p _ q
    case loop a => exact sub_append p _ q
    all_goals (cases q <;> rfl)
theorem blkAt_append : ∀ (p : List Nat) (b : Nat) (c : Code) (q : List Nat), blkAt b c (p ++ q) = blkAt (blkAt b c p) (sub c p) q
  | [], b, c, q => by simp [sub, blkAt]
  | n :: p, b, c, q => by
    cases c <;> simp only [List.cons_append, sub, blkAt]
    case seq x y => split <;> exact blkAt_append p _ _ q
    case cond x x y => split <;> exact blkAt_append p _ _ q
    case block id x => exact blkAt_append p _ _ q
    case loop x => exact blkAt_append p _ _ q
    all_goals (cases q <;> rfl)
theorem contK_append (P : Program) (D : (Oracle m)) (H : Hints) : ∀ (p : List Nat) (b : Nat) (c : Code) (q : List Nat) (k : (Out m) → Option β), contK P D H b c (p ++ q) k = contK P D H (blkAt b c p) (sub c p) q (contK P D H b c p k)
  | [], b, c, q, k => by simp [sub, blkAt, contK]
  | n :: p, b, c, q, k => by
    cases c <;> simp only [List.cons_append, sub, blkAt, contK]
    case seq x y => split <;> exact contK_append P D H p _ _ q _
    case cond x x y => split <;> exact contK_append P D H p _ _ q _
    case block id x => exact contK_append P D H p _ _ q _
    case loop x => exact contK_append P D H p _ _ q _
    all_goals (cases q <;> rfl)

theorem codeN_eq {P : Program} {D : (Oracle m)} {H : Hints} {nm : List (List Nat)} {J : List Nat × (St m) → Option β} {root : Code} {kE : (Out m) → Option β}
    (hJ : ∀ p s, J (p, s) = code2K P D H limR (blkAt 0 root p) (sub root p) s (contK P D H 0 root p kE)) :
    ∀ (c : Code) (r : List Nat) (blk : Nat) (s : (St m)) (k : (Out m) → Option β), sub root r.reverse = c → blkAt 0 root r.reverse = blk → contK P D H 0 root r.reverse kE = k → codeN P D H nm J r blk c s k = code2K P D H limR blk c s k := by
  intro c
  induction c with
  | skip => intro r blk s k _ _ _; rfl
  | region id ops draw => intro r blk s k _ _ _; rfl
  | seq a b iha ihb =>
    intro r blk s k hc hb hk
    have ha0 : sub root (0 :: r).reverse = a := by rw [List.reverse_cons, sub_append, hc]; simp [sub]
    have ha1 : blkAt 0 root (0 :: r).reverse = blk := by rw [List.reverse_cons, blkAt_append, hc, hb]; simp [blkAt]
    have ha2 : contK P D H 0 root (0 :: r).reverse kE = seqK (fun s => code2K P D H limR blk b s k) k := by rw [List.reverse_cons, contK_append, hc, hb, hk]; simp [contK]
    have hb0 : sub root (1 :: r).reverse = b := by rw [List.reverse_cons, sub_append, hc]; simp [sub]
    have hb1 : blkAt 0 root (1 :: r).reverse = blk := by rw [List.reverse_cons, blkAt_append, hc, hb]; simp [blkAt]
    have hb2 : contK P D H 0 root (1 :: r).reverse kE = k := by rw [List.reverse_cons, contK_append, hc, hb, hk]; simp [contK]
    have eb : (fun s' => if nm.contains (1 :: r).reverse then J ((1 :: r).reverse, s') else codeN P D H nm J (1 :: r) blk b s' k) = fun s' => code2K P D H limR blk b s' k := by
      funext s'
      split
      · rw [hJ, hb0, hb1, hb2]
      · exact ihb _ _ _ _ hb0 hb1 hb2
    simp only [codeN, code2K]
    rw [eb]
    split
    · rw [hJ, ha0, ha1, ha2]
    · exact iha _ _ _ _ ha0 ha1 ha2
  | cond x a b iha ihb =>
    intro r blk s k hc hb hk
    have ha0 : sub root (0 :: r).reverse = a := by rw [List.reverse_cons, sub_append, hc]; simp [sub]
    have ha1 : blkAt 0 root (0 :: r).reverse = blk := by rw [List.reverse_cons, blkAt_append, hc, hb]; simp [blkAt]
    have ha2 : contK P D H 0 root (0 :: r).reverse kE = k := by rw [List.reverse_cons, contK_append, hc, hb, hk]; simp [contK]
    have hb0 : sub root (1 :: r).reverse = b := by rw [List.reverse_cons, sub_append, hc]; simp [sub]
    have hb1 : blkAt 0 root (1 :: r).reverse = blk := by rw [List.reverse_cons, blkAt_append, hc, hb]; simp [blkAt]
    have hb2 : contK P D H 0 root (1 :: r).reverse kE = k := by rw [List.reverse_cons, contK_append, hc, hb, hk]; simp [contK]
    simp only [codeN, code2K, forceSt_eq]
    congr 1
    funext t
    congr 1
    · split
      · rw [hJ, ha0, ha1, ha2]
      · exact iha _ _ _ _ ha0 ha1 ha2
    · split
      · rw [hJ, hb0, hb1, hb2]
      · exact ihb _ _ _ _ hb0 hb1 hb2
  | block id a ih =>
    intro r blk s k hc hb hk
    have ha0 : sub root (0 :: r).reverse = a := by rw [List.reverse_cons, sub_append, hc]; simp [sub]
    have ha1 : blkAt 0 root (0 :: r).reverse = id := by rw [List.reverse_cons, blkAt_append, hc, hb]; simp [blkAt]
    have ha2 : contK P D H 0 root (0 :: r).reverse kE = blockK id k := by rw [List.reverse_cons, contK_append, hc, hb, hk]; simp [contK]
    simp only [codeN, code2K]
    split
    · rw [hJ, ha0, ha1, ha2]
    · exact ih _ _ _ _ ha0 ha1 ha2
  | loop a ih =>
    intro r blk s k hc hb hk
    have ha0 : sub root (0 :: r).reverse = a := by rw [List.reverse_cons, sub_append, hc]; simp [sub]
    have ha1 : blkAt 0 root (0 :: r).reverse = blk := by rw [List.reverse_cons, blkAt_append, hc, hb]; simp [blkAt]
    have eL : (fun s => J (r.reverse, s)) = fun s => code2K P D H limR blk (.loop a) s k := by funext s'; rw [hJ, hc, hb, hk]
    have ha2 : contK P D H 0 root (0 :: r).reverse kE = loopK2 (H.clear blk) (H.drop blk) (fun s => code2K P D H limR blk (.loop a) s k) k := by rw [List.reverse_cons, contK_append, hc, hb, hk]; simp [contK]
    simp only [codeN]
    rw [loop_open, eL]
    congr 1
    funext s'
    split
    · rw [hJ, ha0, ha1, ha2]
    · exact ih _ _ _ _ ha0 ha1 ha2
  | exit id => intro r blk s k _ _ _; rfl
  | ret => intro r blk s k _ _ _; rfl
  | _ => intro r blk s k _ _ _; rfl
end

/-- What goes on behind a place, read up to the named places; r: the way to the piece c, told backwards. -/
noncomputable def contN {β : Type} (P : Program) (D : (Oracle m)) (H : Hints) (nm : List (List Nat)) (J : List Nat × (St m) → Option β) : List Nat → Nat → Code → List Nat → ((Out m) → Option β) → (Out m) → Option β
  | _, _, _, [], k => k
  | r, b, .seq x y, n :: p, k => if n = 0 then contN P D H nm J (n :: r) b x p (seqK (fun s => if nm.contains (1 :: r).reverse then J ((1 :: r).reverse, s) else codeN P D H nm J (1 :: r) b y s k) k) else contN P D H nm J (n :: r) b y p k
  | r, b, .cond _ x y, n :: p, k => if n = 0 then contN P D H nm J (n :: r) b x p k else contN P D H nm J (n :: r) b y p k
  | r, _, .block id x, n :: p, k => contN P D H nm J (n :: r) id x p (blockK id k)
  | r, b, .loop x, n :: p, k => contN P D H nm J (n :: r) b x p (loopK2 (H.clear b) (H.drop b) (fun s => J (r.reverse, s)) k)
  | _, _, _, _, k => k
theorem contN_eq {β : Type} {P : Program} {D : (Oracle m)} {H : Hints} {nm : List (List Nat)} {J : List Nat × (St m) → Option β} {root : Code} {kE : (Out m) → Option β}
    (hJ : ∀ p s, J (p, s) = code2K P D H limR (blkAt 0 root p) (sub root p) s (contK P D H 0 root p kE)) :
    ∀ (p : List Nat) (c : Code) (r : List Nat) (blk : Nat) (k : (Out m) → Option β), sub root r.reverse = c → blkAt 0 root r.reverse = blk → contK P D H 0 root r.reverse kE = k → contN P D H nm J r blk c p k = contK P D H blk c p k := by
  intro p
  induction p with
  | nil => intro c r blk k _ _ _; simp [contN, contK]
  | cons n p ih =>
    intro c r blk k hc hb hk
    have hs : ∀ n, sub root (n :: r).reverse = sub c [n] := fun n => by rw [List.reverse_cons, sub_append, hc]
    have hbl : ∀ n, blkAt 0 root (n :: r).reverse = blkAt blk c [n] := fun n => by rw [List.reverse_cons, blkAt_append, hc, hb]
    have hkk : ∀ n, contK P D H 0 root (n :: r).reverse kE = contK P D H blk c [n] k := fun n => by rw [List.reverse_cons, contK_append, hc, hb, hk]
    cases c with
    | seq x y =>
      have hb0 : sub root (1 :: r).reverse = y := by rw [hs]; simp [sub]
      have hb1 : blkAt 0 root (1 :: r).reverse = blk := by rw [hbl]; simp [blkAt]
      have hb2 : contK P D H 0 root (1 :: r).reverse kE = k := by rw [hkk]; simp [contK]
      have eb : (fun s => if nm.contains (1 :: r).reverse then J ((1 :: r).reverse, s) else codeN P D H nm J (1 :: r) blk y s k) = fun s => code2K P D H limR blk y s k := by
        funext s'
        split
        · rw [hJ, hb0, hb1, hb2]
        · exact codeN_eq hJ _ _ _ _ _ hb0 hb1 hb2
      simp only [contN, contK]
      rw [eb]
      by_cases hn : n = 0
      · subst hn
        simp only [if_true]
        exact ih _ _ _ _ (by rw [hs]; simp [sub]) (by rw [hbl]; simp [blkAt]) (by rw [hkk]; simp [contK])
      · simp only [hn, if_false]
        exact ih _ _ _ _ (by rw [hs]; simp [sub, hn]) (by rw [hbl]; simp [blkAt, hn]) (by rw [hkk]; simp [contK, hn])
    | cond z x y =>
      simp only [contN, contK]
      by_cases hn : n = 0
      · subst hn
        simp only [if_true]
        exact ih _ _ _ _ (by rw [hs]; simp [sub]) (by rw [hbl]; simp [blkAt]) (by rw [hkk]; simp [contK])
      · simp only [hn, if_false]
        exact ih _ _ _ _ (by rw [hs]; simp [sub, hn]) (by rw [hbl]; simp [blkAt, hn]) (by rw [hkk]; simp [contK, hn])
    | block id x =>
      simp only [contN, contK]
      exact ih _ _ _ _ (by rw [hs]; simp [sub]) (by rw [hbl]; simp [blkAt]) (by rw [hkk]; simp [contK])
    | loop x =>
      have eL : (fun s => J (r.reverse, s)) = fun s => code2K P D H limR blk (.loop x) s k := by funext s'; rw [hJ, hc, hb, hk]
      simp only [contN, contK]
      rw [eL]
      exact ih _ _ _ _ (by rw [hs]; simp [sub]) (by rw [hbl]; simp [blkAt]) (by rw [hkk]; simp [contK])
    | _ => simp [contN, contK]

/-- A function's code from a place on, read up to the named places. -/
noncomputable def nameF (P : Program) (D : (Oracle m)) (H : FuncId → Hints) (f : FuncId) (nm : List (List Nat)) (n : Nat) (J : List Nat × (St m) → Option ((SV m) × List (List (SV m)))) (x : List Nat × (St m)) : Option ((SV m) × List (List (SV m))) :=
  codeN P D ((H f).fit (fnOf P f).ntmps) nm J x.1.reverse (blkAt 0 (bodyOf P f) x.1) (sub (bodyOf P f) x.1) x.2 (contN P D ((H f).fit (fnOf P f).ntmps) nm J [] 0 (bodyOf P f) x.1 (endK P (fnOf P f) n))
theorem nameF_eq {P : Program} {D : (Oracle m)} {H : FuncId → Hints} {f : FuncId} {n : Nat} {J : List Nat × (St m) → Option ((SV m) × List (List (SV m)))} (hJ : ∀ p s, J (p, s) = atF P D H f p n s) (nm : List (List Nat)) (x : List Nat × (St m)) :
    J x = nameF P D H f nm n J x := by
  obtain ⟨p, s⟩ := x
  rw [hJ]
  unfold nameF atF
  rw [contN_eq (root := bodyOf P f) (fun p s => hJ p s) _ _ _ _ _ (by simp [sub]) (by simp [blkAt]) (by simp [contK])]
  exact (codeN_eq (root := bodyOf P f) (fun p s => hJ p s) _ _ _ _ _ (by simp) (by simp) (by simp)).symm
end Go.Vs
namespace Go.Vs
theorem run_names {m : Bool} {P : Program} {D : (Oracle m)} {H : FuncId → Hints} {f : FuncId} {args : List (SV m)} {boxes : List (List (SV m))} {J : List Nat × (St m) → Option ((SV m) × List (List (SV m)))}
    (hb : ((P.funcs[f]?).bind (·.body)).isSome = true) (hJ : ∀ p s, J (p, s) = atF P D H f p boxes.length s) (nm : List (List Nat)) :
    run2V P D H limR f args boxes = nameF P D H f nm boxes.length J ([], enterV (fnOf P f) args boxes) := by
  rw [← nameF_eq hJ, hJ]
  unfold run2V atF fnOf bodyOf
  cases hfn : P.funcs[f]? with
  | none => rw [hfn] at hb; simp at hb
  | some fn =>
    rw [hfn] at hb
    simp only [Option.bind_some] at hb
    cases hc : fn.body with
    | none => rw [hc] at hb; simp at hb
    | some c => simp [sub, blkAt, contK, hc]
end Go.Vs
