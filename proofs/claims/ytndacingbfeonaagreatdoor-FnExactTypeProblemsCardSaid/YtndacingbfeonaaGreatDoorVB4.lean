/- What the program's functions compute, read off their text by the shadow runner (VsLaw, VsCmb, VsStruct, VsDat, KSt, KL, VsNames, VsLst, VsFig, VsTold); no condition. -/
import Derived.Test.YtndacingbfeonaaGreatDoorRows
import Derived.Laws.Strings
import Derived.Sort.Walk0
import Derived.Lib.ParseIntB
import Derived.Test.YtndacingbfeonaaGreatDoorVB3
section
set_option linter.unusedVariables false
namespace Go.Vs
variable {m : Bool} {P : Program} {f : FuncId} {fn : Func} {c0 : Code}
theorem aUC (hfn : P.funcs[f]? = some fn) (hc0 : fn.body = some c0) {args : List (SV m)} {W : World} {vals : Array Value} {K : aAl} (hl : args.length = vals.size) (hh : args.all SV.handed = true)
    (hr : ∀ j a v, args[j]? = some a → vals[j]? = some v → aZ P W (tI W) (N0 W K) (fun _ => none) (fun _ => W.heap.size) (fun _ => false) (.tmp j) a v)
    (next : ∀ a : Act, lS P fn W (N0 W K) (aA1 fn args []) a W (tI W) (fun _ => none) (fun _ => W.heap.size) → (sub c0 (way 0)).wp P (bodyPost P fn (aJS W)) a W) (hK : KOk W K := by exact KOk.nil) : Calls P f vals W (aJS W) := by
  refine calls_of_wp hfn hc0 ?_
  have hinv : Inv P { tmps := args, boxes := ([] : List (List (SV m))).map some } vals W (tI W) (N0 W K) (fun _ => none) (fun _ => W.heap.size) := by
    refine ⟨hl, fun t => ?_, fun b cs hb => ?_, hK.low, fun g hg => ⟨?_, rfl⟩, fun b cs hb => ?_, fun g hg => ?_⟩
    · by_cases ht : t < args.length
      · have := hr t _ _ (List.getElem?_eq_getElem ht) (Array.getElem?_eq_getElem (by omega))
        simp only [List.getD, List.getElem?_eq_getElem ht, Option.getD_some, Array.getD, show t < vals.size by omega, dif_pos]
        exact this.keeps (gQ.refl _ _) (fun b hb => by simp at hb) (fun g hg => by simp at hg)
      · simp only [List.getD, List.getElem?_eq_none (Nat.not_lt.1 ht), Option.getD_none]
        exact aZ.any
    · simp [bJ] at hb
    · unfold tI
      rw [Array.getElem?_eq_none hg]
    · simp [bJ] at hb
    · simp [N0] at hg
  have h1 := hinv.frame fn hh (by simp)
  have := next { tmps := vals ++ Array.replicate (fn.ntmps - vals.size) undef, defers := [] } ⟨by simpa using h1, by simp [aA1], rfl, Go.RowKit.Below.refl _ _, fun _ _ => rfl, fun _ _ => rfl⟩
  rw [show way 0 = [] from rfl, aOQ] at this
  exact this
def N1 (A : Nat) (K : aAl := []) : Env := { K := K, n := A, Z := fun _ => false, lt := fun g h => by simp at h, T := fun k g => (k == 0 || k == 3) && decide (g < A) }
def N2 (A B : Nat) (F2 : Fr) (K : aAl := []) : Env := { K := K, n := B, Z := fun _ => false, lt := fun g h => by simp at h, T := fun k g => (k == 0 && decide (g < A)) || (k == 1 && decide (A ≤ g ∧ g < B ∧ 0 < F2 g)) || (k == 3 && decide (g < B ∧ ¬ (A ≤ g ∧ 0 < F2 g))) }
open Classical in
noncomputable def N3 (w : World) (A B : Nat) (F2 F3 : Fr) (hB : B ≤ w.heap.size) (K : aAl := []) : Env := { K := K, n := w.heap.size, Z := fun g => decide (A ≤ g ∧ g < B ∧ 0 < F2 g ∧ nT w g), lt := fun g h => by have := of_decide_eq_true h; omega, T := fun k g => (k == 0 && decide (g < A)) || (k == 2 && decide (B ≤ g ∧ 0 < F3 g)) || (k == 3 && decide (g < w.heap.size ∧ ¬ (B ≤ g ∧ 0 < F3 g) ∧ ¬ (A ≤ g ∧ g < B ∧ 0 < F2 g))) }
def N4 (A B : Nat) (R : Nat → Bool) (K : aAl := []) : Env := { K := K, n := B, Z := fun _ => false, lt := fun g h => by simp at h, T := fun k g => (k == 0 && decide (g < A)) || (k == 3 && R g) }
abbrev tA : Fl true := rB.tag 0 false
abbrev tX : Fl true := rB.tag 1 true
abbrev tG : Fl true := rB.tag 2 true
def φ1 : Fl true → Fl true := fun _ => tA
def φ2 : Fl true → Fl true := fun c => match c with | rB.new => tX | _ => tA
def φ3 : Fl true → Fl true := fun c => match c with | rB.new => tG | _ => tA
def σ3 : Fl true → Bool := fun c => match c with | rB.tag 1 _ => true | _ => false
def φ4 : Fl true → Fl true := fun _ => tA
def p4 : Fl true → Bool := fun c => match c with | rB.tag 0 _ => true | _ => false
def p2 : Fl true → Bool := fun c => match c with | rB.new => true | rB.tag 0 _ => true | _ => false
def p3 : Fl true → Bool := fun c => match c with | rB.new => true | rB.tag 0 _ => true | rB.tag 1 f => f | _ => false
theorem aI7 (bs : gW true) (ds : List Nat) : ∀ (i : Nat) (l : List (SV true)), nA (fun _ => true) bs ds i l = true
  | _, [] => rfl
  | i, x :: r => by
    rw [nA, aI7 bs ds (i + 1) r]
    cases x <;> simp only [tW, aHQ, aOi, aKA, aKy, Bool.or_true, Bool.and_true]
    · split <;> simp
section
variable {W w : World} {N : Env} {s : St true} {a : Act} {F : Fr} {Ow : Own} {bm : Nat → Nat}
theorem lS.box_lt (h : lS P fn W N s a w F Ow bm) {b : Nat} {cs : List (SV true)} (hb : bJ s.boxes b = some cs) : bm b < w.heap.size ∧ F (bm b) = 0 ∧ N.n ≤ bm b ∧ cs.length ≤ aDQ F w (bm b) := by
  obtain ⟨cur, et, h1, h2, h3, _⟩ := h.inv.box b cs hb
  exact ⟨(Array.getElem?_eq_some_iff.1 h1).1, h3, h.inv.bmn b cs hb, h2 ▸ aRV h1⟩
theorem aVy {K : aAl} (h : lS P fn W N s a w F Ow bm) (hN : ∀ g, N.T 3 g = false) (ds : List Nat) (hNK : N.K = K := by rfl) : lS P fn W (N1 w.heap.size K) (Vs.turn φ1 (fun _ => false) ds s) a w (aDQ F w) (fun _ => none) (fun _ => w.heap.size) :=
  h.turn φ1 (fun _ => false) ds (fun _ => true) (aI7 _ _ _ _) (fun c g o _ hg _ _ => ⟨rM F w g, .inr ⟨rfl, ⟨by simp [N1, hg], fun h => by cases h⟩, rfl, rfl⟩⟩)
    ⟨fun b cs hb => ⟨(h.box_lt hb).2.2.2, by simp [N1, (h.box_lt hb).1], rfl⟩, fun g hg => by rw [hN] at hg; cases hg⟩
    (Nat.le_refl _) (fun g hg => aF5 (h.inv.new g hg).1 hg) hNK.symm (rM F w) (fun _ _ => rfl) (fun g hg => by simp [N1] at hg)
theorem aVw {K : aAl} {A : Nat} (h : lS P fn W (N1 A K) s a w F Ow bm) (ds : List Nat) (hsl : nA p2 s.boxes ds 0 s.tmps = true) : lS P fn W (N2 A w.heap.size F K) (Vs.turn φ2 (fun _ => false) ds s) a w (aDQ F w) (fun _ => none) (fun _ => w.heap.size) :=
  h.turn φ2 (fun _ => false) ds p2 hsl (fun c g o hc hg hF hH => by
    refine ⟨rM F w g, .inr ⟨rfl, ?_, ?_, rfl⟩⟩
    · cases c with
      | new => obtain ⟨h1, h2, h3⟩ := hH; exact ⟨by simp only [N2]; simp [hg, hF]; exact h1, fun _ => ⟨h2, h3⟩⟩
      | tag k f =>
        rcases k with _ | k
        · exact ⟨by have := hH.1; simp only [N1, N2] at this ⊢; simp at this ⊢; exact this, fun h => by cases h⟩
        · cases (show false = true from hc)
      | _ => cases (show false = true from hc)
    · cases c <;> rfl)
    ⟨fun b cs hb => ⟨(h.box_lt hb).2.2.2, by simp [N2, h.box_lt hb], rfl⟩, fun g hg => by
      have h0 : A ≤ w.heap.size := h.inv.low.le
      simp [N1] at hg
      exact ⟨rM F w g, by simp only [N2]; simp; omega, rfl⟩⟩
    (Nat.le_refl _) (fun g hg => aF5 (h.inv.new g hg).1 hg) rfl (rM F w) (fun _ _ => rfl) (fun g hg => by simp [N2] at hg)
open Classical in
theorem aVf {K : aAl} {A B : Nat} {F2 : Fr} (h : lS P fn W (N2 A B F2 K) s a w F Ow bm) (hA : W.heap.size ≤ A) (hB : B ≤ w.heap.size) (hAB : A ≤ B) (ds : List Nat) (hsl : nA p3 s.boxes ds 0 s.tmps = true) (hK : ∀ k ∈ K, k.1.1 < W.heap.size := by intro _ h; cases h) : lS P fn W (N3 w A B F2 F hB K) (Vs.turn φ3 σ3 ds s) a w (aDQ F w) (fun _ => none) (fun _ => w.heap.size) :=
  h.turn φ3 σ3 ds p3 hsl (fun c g o hc hg hF hH => by
    refine ⟨rM F w g, ?_⟩
    cases c with
    | new =>
      obtain ⟨h1, h2, h3⟩ := hH
      have h1' : B ≤ g := h1
      exact .inr ⟨rfl, ⟨by simp only [N3]; simp [h1', hF], fun _ => ⟨h2, h3⟩⟩, rfl, by simp only [N3]; exact decide_eq_false (fun h => by omega)⟩
    | tag k f =>
      rcases k with _ | _ | k
      · have h0 := hH.1
        simp only [N2] at h0
        simp at h0
        exact .inr ⟨rfl, ⟨by simp only [N3]; simp [h0], fun h => by cases h⟩, rfl, by simp only [N3]; exact decide_eq_false (fun h => by omega)⟩
      · have h0 := hH.1
        simp only [N2] at h0
        simp at h0
        cases f with
        | true => exact .inl ⟨rfl, by simp only [N3]; exact decide_eq_true ⟨h0.1, h0.2.1, h0.2.2, (hH.2 rfl).2⟩⟩
        | false => cases (show false = true from hc)
      · cases (show false = true from hc)
    | _ => cases (show false = true from hc))
    ⟨fun b cs hb => by
      obtain ⟨b1, b2, b3, b4⟩ := h.box_lt hb
      have b3' : B ≤ bm b := b3
      exact ⟨b4, by simp only [N3]; simp; omega, by simp only [N3]; exact decide_eq_false (fun h => by omega)⟩, fun g hg => by
      simp [N2] at hg
      exact ⟨rM F w g, by simp only [N3]; simp; omega, by simp only [N3]; exact decide_eq_false (fun h => by omega)⟩⟩
    (Nat.le_refl _) (fun g hg => aF5 (h.inv.new g hg).1 hg) rfl (rM F w) (fun k hk => by have := hK k hk; simp only [N3]; exact decide_eq_false (fun h => by omega)) (fun g hg => by
      simp only [N3] at hg
      have := of_decide_eq_true hg
      exact ⟨by omega, this.2.2.2⟩)
open Classical in
theorem aVn {K : aAl} {A B : Nat} {w0 : World} {F2 F3 : Fr} {hB0 : B ≤ w0.heap.size} (h : lS P fn W (N3 w0 A B F2 F3 hB0 K) s a w F Ow bm) (hA : W.heap.size ≤ A) (hB : B ≤ w.heap.size) (hAB : A ≤ B) (ds : List Nat) {t : Nat} (ht : t < s.tmps.length) (ht2 : t < fn.ntmps) {es : List (List (aE true))} {z : Nat}
    (hslot : s.tmps.getD t .any = .leaf (.sl tG es)) (hpos : 0 < es.length) (hez : ∀ e ∈ es, e.length = z) (hsl : nA p4 s.boxes ds 0 s.tmps = true) (hK : ∀ k ∈ K, k.1.1 < W.heap.size := by intro _ h; cases h) :
    ∃ k F' Ow' bm' R, es.length * z ≤ k ∧ lS P fn W (N4 A B R K) (aQa (Vs.turn φ4 (fun _ => false) ds s) t z es.length k) a w F' Ow' bm' := by
  obtain ⟨k, F', Ow', bm', h1, h2⟩ := h.row (N' := N4 A B (fun g => (N3 w0 A B F2 F3 hB0 K).T 3 g || decide (w0.heap.size ≤ g)) K) φ4 ds p4 ht ht2 hslot hpos hez hsl (fun g o hg hH => by
    have h0 := hH.1
    simp only [N3] at h0
    simp at h0
    refine ⟨(hH.2 rfl).1, (hH.2 rfl).2, h0.1, by omega, fun c' o' hc' hH' => ?_⟩
    cases c' with
    | tag k f =>
      rcases k with _ | k
      · have h1 := hH'.1
        simp only [N3] at h1
        simp at h1
        omega
      · cases (show false = true from hc')
    | _ => cases (show false = true from hc')) (fun c g o hc hH => by
    refine ⟨?_, rfl⟩
    cases c with
    | tag k f =>
      rcases k with _ | k
      · have h1 := hH.1
        simp only [N3] at h1
        simp at h1
        exact ⟨by simp only [N4]; simp [h1], fun h => by cases h⟩
      · cases (show false = true from hc)
    | _ => cases (show false = true from hc)) (fun g hg hF hH => by
    have h0 := hH.1
    simp only [N3] at h0
    simp at h0
    refine ⟨fun b cs hb => ?_, fun x hx => ?_⟩
    · obtain ⟨b1, b2, b3, b4⟩ := h.box_lt hb
      have b3' : w0.heap.size ≤ bm b := b3
      have hne : bm b ≠ g := fun e => by rw [e] at b2; omega
      exact ⟨by simpa [hne] using b4, by simp only [N4]; simp [b3'], rfl⟩
    · have hx' := hx
      simp only [N3] at hx'
      simp at hx'
      have hne : x ≠ g := fun e => by subst e; omega
      exact ⟨by simp [hne, rM], by simp only [N4]; simp [hx], rfl⟩) (fun _ => rfl) hB rfl hK
  exact ⟨k, F', Ow', bm', _, h1, h2⟩
end
end Go.Vs
end
section
namespace Go.Vs
variable {m : Bool} {β : Type}
abbrev El := List (aE false)
def uM (e : El) (p : Nat) : List El := match e[p]? with | some (.sl _ es) => es | _ => []
def aN3 (e : El) (p : Nat) : Int := match e[p]? with | some (.int _ n) => n | _ => 0
def aO8 (e : El) (p : Nat) : Bool := match e[p]? with | some (.bool b) => b | _ => false
def bY (e : El) (p : Nat) : ByteArray := match e[p]? with | some (.str s) => s | _ => ⟨#[]⟩
theorem bT (b : Bool) : (b == true) = b := by cases b <;> rfl
theorem bF (b : Bool) : (b == false) = !b := by cases b <;> rfl
theorem rP (b : Bool) (x y : Option β) : aB (!b) x y = aB b y x := by cases b <;> rfl
theorem aKZ (b : Bool) (x : Option β) : aB b x x = x := by cases b <;> rfl
def pV (v : SV m) (k : Bool → Option β) : Option β := aP v fun l => dV l k
def aIA (v : SV m) (k : Int → Option β) : Option β := aP v fun l => dQ .i64 l k
def aCi (v : SV m) (k : ByteArray → Option β) : Option β := aP v fun l => cO l k
def vSl (v : SV m) (k : List (List (aE m)) → Option β) : Option β := pY v fun _ es => k es
abbrev Ret (m : Bool) := Option (SV m × List (List (SV m)))
abbrev LE := List El
abbrev LT := List (List (aE true))
abbrev PS := List Nat × St false
abbrev PT := List Nat × St true
def cX (r : Ret m) (k : Bool → Option β) : Option β := r.bind fun r => pV r.1 k
def sN (r : Ret m) (k : Int → Option β) : Option β := r.bind fun r => aIA r.1 k
def aSr (r : Ret m) (k : ByteArray → Option β) : Option β := r.bind fun r => aCi r.1 k
def rSl (r : Ret m) (k : List (List (aE m)) → Option β) : Option β := r.bind fun r => vSl r.1 k
def aEE (t : TypeId) (r : Ret m) (k : List (List (aE m)) → Option β) : Option β := r.bind fun r => qH t r.1 k
def aKG (r : Ret m) (k : Bool → Option β) : Option β := r.bind fun r => mO r.2 (pV r.1 k)
def aPo (r : Ret m) (k : Int → Option β) : Option β := r.bind fun r => mO r.2 (aIA r.1 k)
def aMj (r : Ret m) (k : ByteArray → Bool → Option β) : Option β := r.bind fun r => rE r.2 fun d r1 => dK d fun d r2 => aCi d fun s => iX r2 (mO r1 (pV r.1 fun b => k s b))
def aPb (r : Ret m) (k : ByteArray → Int → Option β) : Option β := r.bind fun r => rE r.2 fun d r1 => dK d fun d r2 => aCi d fun s => iX r2 (mO r1 (aIA r.1 fun b => k s b))
def qE (t : TypeId) (r : Ret m) (k : List (List (aE m)) → Option β) : Option β := r.bind fun r => rE r.2 fun d r1 => dK d fun d r2 => qH t d fun es => iX r2 (mO r1 (mH r.1 fun vs => iX vs (k es)))
def aFB (e : List (aE m)) (p : Nat) (k : Bool → Option β) : Option β := atK e p fun l => dV l k
def aFE (e : List (aE m)) (p : Nat) (k : Int → Option β) : Option β := atK e p fun l => dQ .i64 l k
def eD (e : List (aE m)) (p : Nat) (k : ByteArray → Option β) : Option β := atK e p fun l => cO l k
def aSl (e : List (aE m)) (p : Nat) (k : List (List (aE m)) → Option β) : Option β := atK e p fun l => slK l fun _ es => k es
section
variable {b : Bool} {n : Int} {s : ByteArray} {es : List (List (aE m))} {c : Fl m} {bs : List (List (SV m))} {t : TypeId}
theorem aPW (k : Bool → Option β) : pV (.leaf (.bool b) : SV m) k = k b := rfl
theorem aVB (k : Int → Option β) : aIA (.leaf (.int .i64 n) : SV m) k = k n := rfl
theorem aVA (k : ByteArray → Option β) : aCi (.leaf (.str s) : SV m) k = k s := rfl
theorem aVN (k : List (List (aE m)) → Option β) : vSl (.leaf (.sl c es)) k = k es := rfl
theorem cB (k : Bool → Option β) : cX (some ((.leaf (.bool b) : SV m), bs)) k = k b := rfl
theorem fW (k : Int → Option β) : sN (some ((.leaf (.int .i64 n) : SV m), bs)) k = k n := rfl
theorem aLV (k : ByteArray → Option β) : aSr (some ((.leaf (.str s) : SV m), bs)) k = k s := rfl
theorem aVE (k : List (List (aE m)) → Option β) : rSl (some ((.leaf (.sl c es)), bs)) k = k es := rfl
theorem nG (k : List (List (aE m)) → Option β) : aEE t (some ((.own (some t) es), bs)) k = k es := by show qH t (.own (some t) es) k = k es; simp
theorem aF9 (k : Bool → Option β) : aKG (some ((.leaf (.bool b) : SV m), [])) k = k b := rfl
theorem aMy (k : Int → Option β) : aPo (some ((.leaf (.int .i64 n) : SV m), [])) k = k n := rfl
theorem aKE (k : ByteArray → Bool → Option β) : aMj (some ((.leaf (.bool b) : SV m), [[.leaf (.str s)]])) k = k s b := rfl
theorem aMA (k : ByteArray → Int → Option β) : aPb (some ((.leaf (.int .i64 n) : SV m), [[.leaf (.str s)]])) k = k s n := rfl
theorem iP (k : List (List (aE m)) → Option β) : qE t (some (.tup [], [[.own (some t) es]])) k = k es := by show qH t (.own (some t) es) _ = k es; simp
section
variable {r : List (aE m)}
theorem aRG (k : Bool → Option β) : aFB (.bool b :: r) 0 k = k b := rfl
theorem aTm (k : Int → Option β) : aFE (.int .i64 n :: r) 0 k = k n := rfl
theorem sO (k : ByteArray → Option β) : eD (.str s :: r) 0 k = k s := rfl
theorem aUx (k : List (List (aE m)) → Option β) : aSl (.sl c es :: r) 0 k = k es := rfl
end
theorem pU {l : aE m} {r : List (aE m)} {p : Nat} : (∀ k : Bool → Option β, aFB (l :: r) (p + 1) k = aFB r p k) ∧ (∀ k : Int → Option β, aFE (l :: r) (p + 1) k = aFE r p k) ∧ (∀ k : ByteArray → Option β, eD (l :: r) (p + 1) k = eD r p k) ∧
    (∀ k : List (List (aE m)) → Option β, aSl (l :: r) (p + 1) k = aSl r p k) := ⟨fun _ => rfl, fun _ => rfl, fun _ => rfl, fun _ => rfl⟩
end
theorem rdR : (∀ (m : Bool) (β : Type) (b : Bool) (k : Bool → Option β), pV (.leaf (.bool b) : SV m) k = k b) ∧
    (∀ (m : Bool) (β : Type) (n : Int) (k : Int → Option β), aIA (.leaf (.int .i64 n) : SV m) k = k n) ∧
    (∀ (m : Bool) (β : Type) (s : ByteArray) (k : ByteArray → Option β), aCi (.leaf (.str s) : SV m) k = k s) ∧
    (∀ (m : Bool) (β : Type) (c : Fl m) (es : List (List (aE m))) (k : List (List (aE m)) → Option β), vSl (.leaf (.sl c es)) k = k es) ∧
    (∀ (m : Bool) (β : Type) (b : Bool) (bs : List (List (SV m))) (k : Bool → Option β), cX (some ((.leaf (.bool b) : SV m), bs)) k = k b) ∧
    (∀ (m : Bool) (β : Type) (n : Int) (bs : List (List (SV m))) (k : Int → Option β), sN (some ((.leaf (.int .i64 n) : SV m), bs)) k = k n) ∧
    (∀ (m : Bool) (β : Type) (s : ByteArray) (bs : List (List (SV m))) (k : ByteArray → Option β), aSr (some ((.leaf (.str s) : SV m), bs)) k = k s) ∧
    (∀ (m : Bool) (β : Type) (c : Fl m) (es : List (List (aE m))) (bs : List (List (SV m))) (k : List (List (aE m)) → Option β), rSl (some ((.leaf (.sl c es)), bs)) k = k es) ∧
    (∀ (m : Bool) (β : Type) (t : TypeId) (es : List (List (aE m))) (bs : List (List (SV m))) (k : List (List (aE m)) → Option β), aEE t (some ((.own (some t) es), bs)) k = k es) ∧
    (∀ (m : Bool) (β : Type) (b : Bool) (k : Bool → Option β), aKG (some ((.leaf (.bool b) : SV m), [])) k = k b) ∧
    (∀ (m : Bool) (β : Type) (n : Int) (k : Int → Option β), aPo (some ((.leaf (.int .i64 n) : SV m), [])) k = k n) ∧
    (∀ (m : Bool) (β : Type) (b : Bool) (s : ByteArray) (k : ByteArray → Bool → Option β), aMj (some ((.leaf (.bool b) : SV m), [[.leaf (.str s)]])) k = k s b) ∧
    (∀ (m : Bool) (β : Type) (n : Int) (s : ByteArray) (k : ByteArray → Int → Option β), aPb (some ((.leaf (.int .i64 n) : SV m), [[.leaf (.str s)]])) k = k s n) ∧
    (∀ (m : Bool) (β : Type) (t : TypeId) (es : List (List (aE m))) (k : List (List (aE m)) → Option β), qE t (some (.tup [], [[.own (some t) es]])) k = k es) ∧
    (∀ (m : Bool) (β : Type) (b : Bool) (r : List (aE m)) (k : Bool → Option β), aFB (.bool b :: r) 0 k = k b) ∧
    (∀ (m : Bool) (β : Type) (n : Int) (r : List (aE m)) (k : Int → Option β), aFE (.int .i64 n :: r) 0 k = k n) ∧
    (∀ (m : Bool) (β : Type) (s : ByteArray) (r : List (aE m)) (k : ByteArray → Option β), eD (.str s :: r) 0 k = k s) ∧
    (∀ (m : Bool) (β : Type) (c : Fl m) (es : List (List (aE m))) (r : List (aE m)) (k : List (List (aE m)) → Option β), aSl (.sl c es :: r) 0 k = k es) ∧
    (∀ (β : Type) (α : Type) (x : α) (f : α → Option β), (some x).bind f = f x) ∧
    (∀ (m : Bool) (β : Type) (vs : List (SV m)) (k : List (SV m) → Option β), mH (.tup vs) k = k vs) ∧
    (∀ (m : Bool) (β : Type) (v : SV m) (r : List (SV m)) (k : SV m → List (SV m) → Option β), dK (v :: r) k = k v r) ∧
    (∀ (m : Bool) (β : Type) (v : List (SV m)) (r : List (List (SV m))) (k : List (SV m) → List (List (SV m)) → Option β), rE (v :: r) k = k v r) ∧
    (∀ (m : Bool) (β : Type) (k : Option β), iX ([] : List (SV m)) k = k) ∧
    (∀ (m : Bool) (β : Type) (k : Option β), mO ([] : List (List (SV m))) k = k) ∧
    (∀ (m : Bool) (β : Type) (cs : List (aE m)) (k : List (aE m) → Option β), eV (.agg cs) k = k cs) ∧
    (∀ (m : Bool) (β : Type) (e : TypeId) (es : List (List (aE m))) (k : List (List (aE m)) → Option β), qH e (.own (some e) es) k = k es) ∧
    (∀ (β : Type) (x y : Option β), aB true x y = x) ∧
    (∀ (β : Type) (x y : Option β), aB false x y = y) ∧
    (∀ (β : Type) (x : Option β), aA true x = x) :=
  ⟨fun _ _ _ _ => rfl, fun _ _ _ _ => rfl, fun _ _ _ _ => rfl, fun _ _ _ _ _ => rfl, fun _ _ _ _ _ => rfl, fun _ _ _ _ _ => rfl, fun _ _ _ _ _ => rfl, fun _ _ _ _ _ _ => rfl, fun _ _ _ _ _ k => nG k, fun _ _ _ _ => rfl, fun _ _ _ _ => rfl, fun _ _ _ _ _ => rfl, fun _ _ _ _ _ => rfl, fun _ _ _ _ k => iP k, fun _ _ _ _ _ => rfl, fun _ _ _ _ _ => rfl, fun _ _ _ _ _ => rfl, fun _ _ _ _ _ _ => rfl, fun _ _ _ _ => rfl, fun _ _ _ _ => rfl, fun _ _ _ _ _ => rfl, fun _ _ _ _ _ => rfl, fun _ _ _ => rfl, fun _ _ _ => rfl, fun _ _ _ _ => rfl, fun _ _ => pN, fun _ _ _ => rfl, fun _ _ _ => rfl, fun _ _ => rfl⟩
theorem inI : (∀ a b : Nat, ((a : Int) < (b : Int)) = (a < b)) ∧ (∀ n : Nat, (0 ≤ (n : Int)) = True) ∧ (∀ n : Nat, ((n : Int)).toNat = n) ∧ decide True = true ∧ (∀ b : Bool, (b && true) = b) ∧ (∀ b : Bool, (true && b) = b) ∧ (∀ (β : Type) (x y : Option β), aB true x y = x) ∧ (∀ (β : Type) (x : Option β), aA true x = x) :=
  ⟨fun _ _ => propext Int.ofNat_lt, fun _ => eq_true (Int.natCast_nonneg _), Int.toNat_natCast, by decide, Bool.and_true, Bool.true_and, fun _ _ _ => rfl, fun _ _ => rfl⟩
end Go.Vs
end
section
namespace Go.Vs
variable {β : Type}
structure dN where
  mk ::
  (a0 a1 : ByteArray)
def dN.l (x : dN) : El := [.str x.a0, .str x.a1]
def dN.b (x : dN) : List (SV false) := [.leaf (.str x.a0), .leaf (.str x.a1)]
def dN.rd (e : El) (k : dN → Option β) : Option β := eD e 0 fun a0 => eD e 1 fun a1 => k ⟨a0, a1⟩
def dN.va (v : SV false) (k : dN → Option β) : Option β := eV v fun e => aA (e.length == 2) (dN.rd e k)
theorem dN.rd_l (x : dN) (k : dN → Option β) : dN.rd x.l k = k x := rfl
theorem dN.va_l (x : dN) (k : dN → Option β) : dN.va (.agg x.l) k = k x := rfl
def dN.of (e : El) : dN := ⟨bY e 0, bY e 1⟩
theorem dN.of_l (x : dN) : dN.of x.l = x := rfl
theorem dN.len (x : dN) : x.l.length = 2 := rfl
structure cW where
  mk ::
  (a0 : Int) (a1 : ByteArray) (a2 a3 : List El)
def cW.l (x : cW) : El := [.int .i64 x.a0, .str x.a1, .sl fP x.a2, .sl fP x.a3]
def cW.b (x : cW) : List (SV false) := [.leaf (.int .i64 x.a0), .leaf (.str x.a1), .leaf (.sl fP x.a2), .leaf (.sl fP x.a3)]
def cW.rd (e : El) (k : cW → Option β) : Option β := aFE e 0 fun a0 => eD e 1 fun a1 => aSl e 2 fun a2 => aSl e 3 fun a3 => k ⟨a0, a1, a2, a3⟩
def cW.va (v : SV false) (k : cW → Option β) : Option β := eV v fun e => aA (e.length == 4) (cW.rd e k)
theorem cW.rd_l (x : cW) (k : cW → Option β) : cW.rd x.l k = k x := rfl
theorem cW.va_l (x : cW) (k : cW → Option β) : cW.va (.agg x.l) k = k x := rfl
def cW.of (e : El) : cW := ⟨aN3 e 0, bY e 1, uM e 2, uM e 3⟩
theorem cW.of_l (x : cW) : cW.of x.l = x := rfl
theorem cW.len (x : cW) : x.l.length = 4 := rfl
structure gA where
  mk ::
  (a0 : ByteArray) (a1 : Int) (a2 : ByteArray) (a3 a4 : List El)
def gA.l (x : gA) : El := [.str x.a0, .int .i64 x.a1, .str x.a2, .sl fP x.a3, .sl fP x.a4]
def gA.b (x : gA) : List (SV false) := [.leaf (.str x.a0), .leaf (.int .i64 x.a1), .leaf (.str x.a2), .leaf (.sl fP x.a3), .leaf (.sl fP x.a4)]
def gA.rd (e : El) (k : gA → Option β) : Option β := eD e 0 fun a0 => aFE e 1 fun a1 => eD e 2 fun a2 => aSl e 3 fun a3 => aSl e 4 fun a4 => k ⟨a0, a1, a2, a3, a4⟩
def gA.va (v : SV false) (k : gA → Option β) : Option β := eV v fun e => aA (e.length == 5) (gA.rd e k)
theorem gA.rd_l (x : gA) (k : gA → Option β) : gA.rd x.l k = k x := rfl
theorem gA.va_l (x : gA) (k : gA → Option β) : gA.va (.agg x.l) k = k x := rfl
def gA.of (e : El) : gA := ⟨bY e 0, aN3 e 1, bY e 2, uM e 3, uM e 4⟩
theorem gA.of_l (x : gA) : gA.of x.l = x := rfl
theorem gA.len (x : gA) : x.l.length = 5 := rfl
structure xI where
  mk ::
  (a0 : ByteArray) (a1 : List El)
def xI.l (x : xI) : El := [.str x.a0, .sl fP x.a1]
def xI.b (x : xI) : List (SV false) := [.leaf (.str x.a0), .leaf (.sl fP x.a1)]
def xI.rd (e : El) (k : xI → Option β) : Option β := eD e 0 fun a0 => aSl e 1 fun a1 => k ⟨a0, a1⟩
def xI.va (v : SV false) (k : xI → Option β) : Option β := eV v fun e => aA (e.length == 2) (xI.rd e k)
theorem xI.rd_l (x : xI) (k : xI → Option β) : xI.rd x.l k = k x := rfl
theorem xI.va_l (x : xI) (k : xI → Option β) : xI.va (.agg x.l) k = k x := rfl
def xI.of (e : El) : xI := ⟨bY e 0, uM e 1⟩
theorem xI.of_l (x : xI) : xI.of x.l = x := rfl
theorem xI.len (x : xI) : x.l.length = 2 := rfl
structure aY where
  mk ::
  (a0 a1 a2 a3 : ByteArray) (a4 : Bool) (a5 : Int) (a6 : ByteArray) (a7 a8 a9 : List El)
def aY.l (x : aY) : El := [.str x.a0, .str x.a1, .str x.a2, .str x.a3, .bool x.a4, .int .i64 x.a5, .str x.a6, .sl fP x.a7, .sl fP x.a8, .sl fP x.a9]
def aY.b (x : aY) : List (SV false) := [.leaf (.str x.a0), .leaf (.str x.a1), .leaf (.str x.a2), .leaf (.str x.a3), .leaf (.bool x.a4), .leaf (.int .i64 x.a5), .leaf (.str x.a6), .leaf (.sl fP x.a7), .leaf (.sl fP x.a8), .leaf (.sl fP x.a9)]
def aY.rd (e : El) (k : aY → Option β) : Option β := eD e 0 fun a0 => eD e 1 fun a1 => eD e 2 fun a2 => eD e 3 fun a3 => aFB e 4 fun a4 => aFE e 5 fun a5 => eD e 6 fun a6 => aSl e 7 fun a7 => aSl e 8 fun a8 => aSl e 9 fun a9 => k ⟨a0, a1, a2, a3, a4, a5, a6, a7, a8, a9⟩
def aY.va (v : SV false) (k : aY → Option β) : Option β := eV v fun e => aA (e.length == 10) (aY.rd e k)
theorem aY.rd_l (x : aY) (k : aY → Option β) : aY.rd x.l k = k x := rfl
theorem aY.va_l (x : aY) (k : aY → Option β) : aY.va (.agg x.l) k = k x := rfl
def aY.of (e : El) : aY := ⟨bY e 0, bY e 1, bY e 2, bY e 3, aO8 e 4, aN3 e 5, bY e 6, uM e 7, uM e 8, uM e 9⟩
theorem aY.of_l (x : aY) : aY.of x.l = x := rfl
theorem aY.len (x : aY) : x.l.length = 10 := rfl
structure bK where
  mk ::
  (a0 a1 : ByteArray) (a2 : List El) (a3 a4 : ByteArray) (a5 : List El)
def bK.l (x : bK) : El := [.str x.a0, .str x.a1, .sl fP x.a2, .str x.a3, .str x.a4, .sl fP x.a5]
def bK.b (x : bK) : List (SV false) := [.leaf (.str x.a0), .leaf (.str x.a1), .leaf (.sl fP x.a2), .leaf (.str x.a3), .leaf (.str x.a4), .leaf (.sl fP x.a5)]
def bK.rd (e : El) (k : bK → Option β) : Option β := eD e 0 fun a0 => eD e 1 fun a1 => aSl e 2 fun a2 => eD e 3 fun a3 => eD e 4 fun a4 => aSl e 5 fun a5 => k ⟨a0, a1, a2, a3, a4, a5⟩
def bK.va (v : SV false) (k : bK → Option β) : Option β := eV v fun e => aA (e.length == 6) (bK.rd e k)
theorem bK.rd_l (x : bK) (k : bK → Option β) : bK.rd x.l k = k x := rfl
theorem bK.va_l (x : bK) (k : bK → Option β) : bK.va (.agg x.l) k = k x := rfl
def bK.of (e : El) : bK := ⟨bY e 0, bY e 1, uM e 2, bY e 3, bY e 4, uM e 5⟩
theorem bK.of_l (x : bK) : bK.of x.l = x := rfl
theorem bK.len (x : bK) : x.l.length = 6 := rfl
structure jS where
  mk ::
  (a0 a1 : ByteArray) (a2 : List El)
def jS.l (x : jS) : El := [.str x.a0, .str x.a1, .sl fP x.a2]
def jS.b (x : jS) : List (SV false) := [.leaf (.str x.a0), .leaf (.str x.a1), .leaf (.sl fP x.a2)]
def jS.rd (e : El) (k : jS → Option β) : Option β := eD e 0 fun a0 => eD e 1 fun a1 => aSl e 2 fun a2 => k ⟨a0, a1, a2⟩
def jS.va (v : SV false) (k : jS → Option β) : Option β := eV v fun e => aA (e.length == 3) (jS.rd e k)
theorem jS.rd_l (x : jS) (k : jS → Option β) : jS.rd x.l k = k x := rfl
theorem jS.va_l (x : jS) (k : jS → Option β) : jS.va (.agg x.l) k = k x := rfl
def jS.of (e : El) : jS := ⟨bY e 0, bY e 1, uM e 2⟩
theorem jS.of_l (x : jS) : jS.of x.l = x := rfl
theorem jS.len (x : jS) : x.l.length = 3 := rfl
structure xJ where
  mk ::
  (a0 : Int) (a1 : ByteArray)
def xJ.l (x : xJ) : El := [.int .i64 x.a0, .str x.a1]
def xJ.b (x : xJ) : List (SV false) := [.leaf (.int .i64 x.a0), .leaf (.str x.a1)]
def xJ.rd (e : El) (k : xJ → Option β) : Option β := aFE e 0 fun a0 => eD e 1 fun a1 => k ⟨a0, a1⟩
def xJ.va (v : SV false) (k : xJ → Option β) : Option β := eV v fun e => aA (e.length == 2) (xJ.rd e k)
theorem xJ.rd_l (x : xJ) (k : xJ → Option β) : xJ.rd x.l k = k x := rfl
theorem xJ.va_l (x : xJ) (k : xJ → Option β) : xJ.va (.agg x.l) k = k x := rfl
def xJ.of (e : El) : xJ := ⟨aN3 e 0, bY e 1⟩
theorem xJ.of_l (x : xJ) : xJ.of x.l = x := rfl
theorem xJ.len (x : xJ) : x.l.length = 2 := rfl
structure aF where
  mk ::
  (a0 : Int) (a1 : Bool) (a2 a3 : ByteArray) (a4 a5 a6 a7 a8 : List El) (a9 : Bool) (a10 : List El)
def aF.l (x : aF) : El := [.int .i64 x.a0, .bool x.a1, .str x.a2, .str x.a3, .sl fP x.a4, .sl fP x.a5, .sl fP x.a6, .sl fP x.a7, .sl fP x.a8, .bool x.a9, .sl fP x.a10]
def aF.b (x : aF) : List (SV false) := [.leaf (.int .i64 x.a0), .leaf (.bool x.a1), .leaf (.str x.a2), .leaf (.str x.a3), .leaf (.sl fP x.a4), .leaf (.sl fP x.a5), .leaf (.sl fP x.a6), .leaf (.sl fP x.a7), .leaf (.sl fP x.a8), .leaf (.bool x.a9), .leaf (.sl fP x.a10)]
def aF.rd (e : El) (k : aF → Option β) : Option β := aFE e 0 fun a0 => aFB e 1 fun a1 => eD e 2 fun a2 => eD e 3 fun a3 => aSl e 4 fun a4 => aSl e 5 fun a5 => aSl e 6 fun a6 => aSl e 7 fun a7 => aSl e 8 fun a8 => aFB e 9 fun a9 => aSl e 10 fun a10 => k ⟨a0, a1, a2, a3, a4, a5, a6, a7, a8, a9, a10⟩
def aF.va (v : SV false) (k : aF → Option β) : Option β := eV v fun e => aA (e.length == 11) (aF.rd e k)
theorem aF.rd_l (x : aF) (k : aF → Option β) : aF.rd x.l k = k x := rfl
theorem aF.va_l (x : aF) (k : aF → Option β) : aF.va (.agg x.l) k = k x := rfl
def aF.of (e : El) : aF := ⟨aN3 e 0, aO8 e 1, bY e 2, bY e 3, uM e 4, uM e 5, uM e 6, uM e 7, uM e 8, aO8 e 9, uM e 10⟩
theorem aF.of_l (x : aF) : aF.of x.l = x := rfl
theorem aF.len (x : aF) : x.l.length = 11 := rfl
structure bR where
  mk ::
  (a0 a1 a2 : List El)
def bR.l (x : bR) : El := [.sl fP x.a0, .sl fP x.a1, .sl fP x.a2]
def bR.b (x : bR) : List (SV false) := [.leaf (.sl fP x.a0), .leaf (.sl fP x.a1), .leaf (.sl fP x.a2)]
def bR.rd (e : El) (k : bR → Option β) : Option β := aSl e 0 fun a0 => aSl e 1 fun a1 => aSl e 2 fun a2 => k ⟨a0, a1, a2⟩
def bR.va (v : SV false) (k : bR → Option β) : Option β := eV v fun e => aA (e.length == 3) (bR.rd e k)
theorem bR.rd_l (x : bR) (k : bR → Option β) : bR.rd x.l k = k x := rfl
theorem bR.va_l (x : bR) (k : bR → Option β) : bR.va (.agg x.l) k = k x := rfl
def bR.of (e : El) : bR := ⟨uM e 0, uM e 1, uM e 2⟩
theorem bR.of_l (x : bR) : bR.of x.l = x := rfl
theorem bR.len (x : bR) : x.l.length = 3 := rfl
structure pA where
  mk ::
  (a0 : Int) (a1 a2 : ByteArray)
def pA.l (x : pA) : El := [.int .i64 x.a0, .str x.a1, .str x.a2]
def pA.b (x : pA) : List (SV false) := [.leaf (.int .i64 x.a0), .leaf (.str x.a1), .leaf (.str x.a2)]
def pA.rd (e : El) (k : pA → Option β) : Option β := aFE e 0 fun a0 => eD e 1 fun a1 => eD e 2 fun a2 => k ⟨a0, a1, a2⟩
def pA.va (v : SV false) (k : pA → Option β) : Option β := eV v fun e => aA (e.length == 3) (pA.rd e k)
theorem pA.rd_l (x : pA) (k : pA → Option β) : pA.rd x.l k = k x := rfl
theorem pA.va_l (x : pA) (k : pA → Option β) : pA.va (.agg x.l) k = k x := rfl
def pA.of (e : El) : pA := ⟨aN3 e 0, bY e 1, bY e 2⟩
theorem pA.of_l (x : pA) : pA.of x.l = x := rfl
theorem pA.len (x : pA) : x.l.length = 3 := rfl
theorem atP : (∀ (β : Type) (x : dN), (∀ k : ByteArray → Option β, eD x.l 0 k = k x.a0) ∧ (∀ k : ByteArray → Option β, eD x.l 1 k = k x.a1)) ∧ (∀ (β : Type) (x : cW), (∀ k : Int → Option β, aFE x.l 0 k = k x.a0) ∧ (∀ k : ByteArray → Option β, eD x.l 1 k = k x.a1) ∧ (∀ k : List El → Option β, aSl x.l 2 k = k x.a2) ∧ (∀ k : List El → Option β, aSl x.l 3 k = k x.a3)) ∧ (∀ (β : Type) (x : gA), (∀ k : ByteArray → Option β, eD x.l 0 k = k x.a0) ∧ (∀ k : Int → Option β, aFE x.l 1 k = k x.a1) ∧ (∀ k : ByteArray → Option β, eD x.l 2 k = k x.a2) ∧ (∀ k : List El → Option β, aSl x.l 3 k = k x.a3) ∧ (∀ k : List El → Option β, aSl x.l 4 k = k x.a4)) ∧ (∀ (β : Type) (x : xI), (∀ k : ByteArray → Option β, eD x.l 0 k = k x.a0) ∧ (∀ k : List El → Option β, aSl x.l 1 k = k x.a1)) ∧ (∀ (β : Type) (x : aY), (∀ k : ByteArray → Option β, eD x.l 0 k = k x.a0) ∧ (∀ k : ByteArray → Option β, eD x.l 1 k = k x.a1) ∧ (∀ k : ByteArray → Option β, eD x.l 2 k = k x.a2) ∧ (∀ k : ByteArray → Option β, eD x.l 3 k = k x.a3) ∧ (∀ k : Bool → Option β, aFB x.l 4 k = k x.a4) ∧ (∀ k : Int → Option β, aFE x.l 5 k = k x.a5) ∧ (∀ k : ByteArray → Option β, eD x.l 6 k = k x.a6) ∧ (∀ k : List El → Option β, aSl x.l 7 k = k x.a7) ∧ (∀ k : List El → Option β, aSl x.l 8 k = k x.a8) ∧ (∀ k : List El → Option β, aSl x.l 9 k = k x.a9)) ∧ (∀ (β : Type) (x : bK), (∀ k : ByteArray → Option β, eD x.l 0 k = k x.a0) ∧ (∀ k : ByteArray → Option β, eD x.l 1 k = k x.a1) ∧ (∀ k : List El → Option β, aSl x.l 2 k = k x.a2) ∧ (∀ k : ByteArray → Option β, eD x.l 3 k = k x.a3) ∧ (∀ k : ByteArray → Option β, eD x.l 4 k = k x.a4) ∧ (∀ k : List El → Option β, aSl x.l 5 k = k x.a5)) ∧ (∀ (β : Type) (x : jS), (∀ k : ByteArray → Option β, eD x.l 0 k = k x.a0) ∧ (∀ k : ByteArray → Option β, eD x.l 1 k = k x.a1) ∧ (∀ k : List El → Option β, aSl x.l 2 k = k x.a2)) ∧ (∀ (β : Type) (x : xJ), (∀ k : Int → Option β, aFE x.l 0 k = k x.a0) ∧ (∀ k : ByteArray → Option β, eD x.l 1 k = k x.a1)) ∧ (∀ (β : Type) (x : aF), (∀ k : Int → Option β, aFE x.l 0 k = k x.a0) ∧ (∀ k : Bool → Option β, aFB x.l 1 k = k x.a1) ∧ (∀ k : ByteArray → Option β, eD x.l 2 k = k x.a2) ∧ (∀ k : ByteArray → Option β, eD x.l 3 k = k x.a3) ∧ (∀ k : List El → Option β, aSl x.l 4 k = k x.a4) ∧ (∀ k : List El → Option β, aSl x.l 5 k = k x.a5) ∧ (∀ k : List El → Option β, aSl x.l 6 k = k x.a6) ∧ (∀ k : List El → Option β, aSl x.l 7 k = k x.a7) ∧ (∀ k : List El → Option β, aSl x.l 8 k = k x.a8) ∧ (∀ k : Bool → Option β, aFB x.l 9 k = k x.a9) ∧ (∀ k : List El → Option β, aSl x.l 10 k = k x.a10)) ∧ (∀ (β : Type) (x : bR), (∀ k : List El → Option β, aSl x.l 0 k = k x.a0) ∧ (∀ k : List El → Option β, aSl x.l 1 k = k x.a1) ∧ (∀ k : List El → Option β, aSl x.l 2 k = k x.a2)) ∧ (∀ (β : Type) (x : pA), (∀ k : Int → Option β, aFE x.l 0 k = k x.a0) ∧ (∀ k : ByteArray → Option β, eD x.l 1 k = k x.a1) ∧ (∀ k : ByteArray → Option β, eD x.l 2 k = k x.a2)) := ⟨fun _ _ => ⟨fun _ => rfl, fun _ => rfl⟩, fun _ _ => ⟨fun _ => rfl, fun _ => rfl, fun _ => rfl, fun _ => rfl⟩, fun _ _ => ⟨fun _ => rfl, fun _ => rfl, fun _ => rfl, fun _ => rfl, fun _ => rfl⟩, fun _ _ => ⟨fun _ => rfl, fun _ => rfl⟩, fun _ _ => ⟨fun _ => rfl, fun _ => rfl, fun _ => rfl, fun _ => rfl, fun _ => rfl, fun _ => rfl, fun _ => rfl, fun _ => rfl, fun _ => rfl, fun _ => rfl⟩, fun _ _ => ⟨fun _ => rfl, fun _ => rfl, fun _ => rfl, fun _ => rfl, fun _ => rfl, fun _ => rfl⟩, fun _ _ => ⟨fun _ => rfl, fun _ => rfl, fun _ => rfl⟩, fun _ _ => ⟨fun _ => rfl, fun _ => rfl⟩, fun _ _ => ⟨fun _ => rfl, fun _ => rfl, fun _ => rfl, fun _ => rfl, fun _ => rfl, fun _ => rfl, fun _ => rfl, fun _ => rfl, fun _ => rfl, fun _ => rfl, fun _ => rfl⟩, fun _ _ => ⟨fun _ => rfl, fun _ => rfl, fun _ => rfl⟩, fun _ _ => ⟨fun _ => rfl, fun _ => rfl, fun _ => rfl⟩⟩
end Go.Vs
end
section
set_option linter.unusedVariables false
namespace Go.Vs
theorem bA {i : Nat} (h : i < maxLen) : IntKind.i64.wrap ((i : Int) + 1) = ((i + 1 : Nat) : Int) := by
  have hm : maxLen = 9223372036854775807 := rfl
  rw [qG (by omega) (by omega)]; rfl
mutual
def szF : aE false → Int → Int
  | .str s, n => if IntKind.i64.wrap (n - (s.size : Int)) < 0 then -1 else IntKind.i64.wrap (n - (s.size : Int))
  | .sl _ es, n => if IntKind.i64.wrap (n - (es.length : Int)) < 0 then -1 else szE es (IntKind.i64.wrap (n - (es.length : Int)))
  | .bool _, n => n
  | .int _ _, n => n
  | .unk, n => n
  | .nl _, n => n
def szL : List (aE false) → Int → Int
  | [], n => n
  | l :: r, n => if szF l n < 0 then -1 else szL r (szF l n)
def szE : List (List (aE false)) → Int → Int
  | [], n => n
  | e :: es, n => if szL e n < 0 then -1 else szE es (szL e n)
end
theorem aMS : ∀ (a b : List (aE false)) (n : Int), 0 ≤ n → szL (a ++ b) n = if szL a n < 0 then -1 else szL b (szL a n)
  | [], b, n, h => by simp [szL, Int.not_lt.2 h]
  | l :: a, b, n, h => by
    simp only [List.cons_append, szL]
    by_cases h1 : szF l n < 0
    · simp [h1]
    · simp only [h1, if_false]
      exact aMS a b _ (by omega)
section
variable {r : List (aE false)} {n : Int}
abbrev aJ (n : Int) : SV false := .leaf (.int .i64 n)
abbrev aI (b : Bool) : SV false := .leaf (.bool b)
abbrev vsl (es : List (List (aE false))) : SV false := .leaf (.sl fP es)
abbrev Res := Option (SV false × List (List (SV false)))
theorem wH {s : ByteArray} {Y : Res} (g : 0 ≤ IntKind.i64.wrap (n - (s.size : Int)) → Y = some (aJ (szL r (IntKind.i64.wrap (n - (s.size : Int)))), [])) :
    aB (decide (IntKind.i64.wrap (n - (s.size : Int)) < 0)) (some (SV.leaf (aE.int .i64 (-1)), [])) Y = some (aJ (szL (.str s :: r) n), []) := by
  rw [kR]
  by_cases h : IntKind.i64.wrap (n - (s.size : Int)) < 0
  · simp [h, szL, szF]
  · simp only [h, decide_false, Bool.false_eq_true, if_false, szL, szF]
    exact g (by omega)
theorem aQD {k : IntKind} {z : Int} {Y : Res} (hn : 0 ≤ n) (g : Y = some (aJ (szL r n), [])) : Y = some (aJ (szL (.int k z :: r) n), []) := by
  rw [g]; simp [szL, szF, Int.not_lt.2 hn]
theorem aOM {b : Bool} {Y : Res} (hn : 0 ≤ n) (g : Y = some (aJ (szL r n), [])) : Y = some (aJ (szL (.bool b :: r) n), []) := by
  rw [g]; simp [szL, szF, Int.not_lt.2 hn]
theorem aL3 {d : Res} {a : List (aE false)} {Y : Int → Res} (hd : d = some (aJ (szL a n), [])) (hn : 0 ≤ n) (g : ∀ k, 0 ≤ k → Y k = some (aJ (szL r k), [])) :
    (d.bind fun r => aP r.fst fun l => dQ .i64 l fun n => aB (decide (n < 0)) (some (SV.leaf (aE.int .i64 (-1)), [])) (Y n)) = some (aJ (szL (a ++ r) n), []) := by
  rw [hd, aMS _ _ _ hn]
  simp only [Option.bind_some, bH, cP, kR]
  by_cases h : szL a n < 0
  · simp [h]
  · simp only [h, decide_false, Bool.false_eq_true, if_false]
    exact g _ (by omega)
theorem lF {d : Res} {es : List (List (aE false))} {Y : Int → Res} (hd : d = some (aJ (szF (.sl fP es) n), [])) (g : ∀ k, 0 ≤ k → Y k = some (aJ (szL r k), [])) :
    (d.bind fun r => aP r.fst fun l => dQ .i64 l fun n => aB (decide (n < 0)) (some (SV.leaf (aE.int .i64 (-1)), [])) (Y n)) = some (aJ (szL (.sl fP es :: r) n), []) := by
  rw [hd]
  simp only [Option.bind_some, bH, cP, kR, szL]
  by_cases h : szF (.sl fP es) n < 0
  · simp [h]
  · simp only [h, decide_false, Bool.false_eq_true, if_false]
    exact g _ (by omega)
theorem aC5 {es : List (List (aE false))} {Y : Res} (g : 0 ≤ IntKind.i64.wrap (n - (es.length : Int)) → Y = some (aJ (szE es (IntKind.i64.wrap (n - (es.length : Int)))), [])) :
    aB (decide (IntKind.i64.wrap (n - (es.length : Int)) < 0)) (some (SV.leaf (aE.int .i64 (-1)), [])) Y = some (aJ (szF (.sl fP es) n), []) := by
  rw [kR, szF]
  by_cases h : IntKind.i64.wrap (n - (es.length : Int)) < 0
  · simp [h]
  · simp only [h, decide_false, Bool.false_eq_true, if_false]
    exact g (by omega)
theorem aBn {e : List (aE false)} {es : List (List (aE false))} {d : Res} {Y : Int → Res} (hd : d = some (aJ (szL e n), [])) (g : ∀ k, 0 ≤ k → Y k = some (aJ (szE es k), [])) :
    (d.bind fun r => aP r.fst fun l => dQ .i64 l fun n => aB (decide (n < 0)) (some (SV.leaf (aE.int .i64 (-1)), [])) (Y n)) = some (aJ (szE (e :: es) n), []) := by
  rw [hd]
  simp only [Option.bind_some, bH, cP, kR, szE]
  by_cases h : szL e n < 0
  · simp [h]
  · simp only [h, decide_false, Bool.false_eq_true, if_false]
    exact g _ (by omega)
theorem aTN {s : ByteArray} {es : List (List (aE false))} {Y : Res} (g : 0 ≤ IntKind.i64.wrap (n - (s.size : Int)) → Y = some (aJ (szE es (IntKind.i64.wrap (n - (s.size : Int)))), [])) :
    aB (decide (IntKind.i64.wrap (n - (s.size : Int)) < 0)) (some (SV.leaf (aE.int .i64 (-1)), [])) Y = some (aJ (szE ([.str s] :: es) n), []) := by
  rw [kR]
  by_cases h : IntKind.i64.wrap (n - (s.size : Int)) < 0
  · simp [h, szE, szL, szF]
  · simp only [h, decide_false, Bool.false_eq_true, if_false, szE, szL, szF]
    exact g (by omega)
end
mutual
def mkF : aE false → Int → Int
  | .str _, k => IntKind.i64.wrap (k + 1)
  | .bool _, k => IntKind.i64.wrap (k + 1)
  | .int _ _, k => IntKind.i64.wrap (k + 1)
  | .sl _ es, k => mkE es k
  | .unk, k => k
  | .nl _, k => k
def mkL : List (aE false) → Int → Int
  | [], k => k
  | l :: r, k => mkL r (mkF l k)
def mkE : List (List (aE false)) → Int → Int
  | [], k => k
  | e :: es, k => mkE es (mkL e k)
end
theorem aQV : ∀ (a b : List (aE false)) (k : Int), mkL (a ++ b) k = mkL b (mkL a k)
  | [], _, _ => rfl
  | l :: a, b, k => by simp only [List.cons_append, mkL]; exact aQV a b _
mutual
def tF : aE false → Nat
  | .sl _ es => es.length + tE es
  | _ => 0
def tL : List (aE false) → Nat
  | [] => 0
  | l :: r => tF l + tL r
def tE : List (List (aE false)) → Nat
  | [] => 0
  | e :: es => tL e + tE es
end
mutual
def okF (z : Nat) : aE false → Prop
  | .str s => s.size ≤ maxLen
  | .sl _ es => es.length ≤ maxLen ∧ okE z es
  | _ => True
def okL (z : Nat) : List (aE false) → Prop
  | [] => True
  | l :: r => okF z l ∧ okL z r
def okE (z : Nat) : List (List (aE false)) → Prop
  | [] => True
  | e :: es => e.length ≤ z ∧ okL z e ∧ okE z es
end
def cap : Int := 4611686018427387904
mutual
theorem aUv {z : Nat} : ∀ (l : aE false) (n : Int), okF z l → 0 ≤ n → n ≤ cap → 0 ≤ szF l n → szF l n ≤ n ∧ (tF l : Int) ≤ n - szF l n
  | .str s, n, ho, h0, hn, h => by
    have hm : maxLen = 9223372036854775807 := rfl
    simp only [okF] at ho
    simp only [szF, tF, cap] at *
    rw [qG (by omega) (by omega)] at h ⊢
    split at h <;> simp_all <;> omega
  | .sl _ es, n, ho, h0, hn, h => by
    have hm : maxLen = 9223372036854775807 := rfl
    simp only [okF] at ho
    simp only [szF, tF] at *
    rw [qG (by simp only [cap] at hn; omega) (by simp only [cap] at hn; omega)] at h ⊢
    by_cases hl : n - (es.length : Int) < 0
    · simp [hl] at h
    · simp only [hl, if_false] at h ⊢
      have := aUr es (n - es.length) ho.2 (by omega) (by omega) h
      omega
  | .bool _, n, _, _, _, _ => by simp [szF, tF]
  | .int _ _, n, _, _, _, _ => by simp [szF, tF]
  | .unk, n, _, _, _, _ => by simp [szF, tF]
  | .nl _, n, _, _, _, _ => by simp [szF, tF]
theorem aPk {z : Nat} : ∀ (l : List (aE false)) (n : Int), okL z l → 0 ≤ n → n ≤ cap → 0 ≤ szL l n → szL l n ≤ n ∧ (tL l : Int) ≤ n - szL l n
  | [], n, _, _, _, _ => by simp [szL, tL]
  | l :: r, n, ho, h0, hn, h => by
    simp only [okL] at ho
    simp only [szL, tL] at *
    by_cases hl : szF l n < 0
    · simp [hl] at h
    · simp only [hl, if_false] at h ⊢
      have h1 := aUv l n ho.1 h0 hn (by omega)
      have h2 := aPk r _ ho.2 (by omega) (by omega) h
      omega
theorem aUr {z : Nat} : ∀ (l : List (List (aE false))) (n : Int), okE z l → 0 ≤ n → n ≤ cap → 0 ≤ szE l n → szE l n ≤ n ∧ (tE l : Int) ≤ n - szE l n
  | [], n, _, _, _, _ => by simp [szE, tE]
  | e :: r, n, ho, h0, hn, h => by
    simp only [okE] at ho
    simp only [szE, tE] at *
    by_cases hl : szL e n < 0
    · simp [hl] at h
    · simp only [hl, if_false] at h ⊢
      have h1 := aPk e n ho.2.1 h0 hn (by omega)
      have h2 := aUr r _ ho.2.2 (by omega) (by omega) h
      omega
end
mutual
theorem aVg {z : Nat} : ∀ (l : aE false) (k : Int), okF z l → 0 ≤ k → k + 1 + z * tF l ≤ cap → k ≤ mkF l k ∧ mkF l k ≤ k + 1 + z * tF l
  | .str s, k, _, h0, hn => by simp only [mkF, tF, cap] at *; rw [qG (by omega) (by omega)]; omega
  | .bool s, k, _, h0, hn => by simp only [mkF, tF, cap] at *; rw [qG (by omega) (by omega)]; omega
  | .int _ s, k, _, h0, hn => by simp only [mkF, tF, cap] at *; rw [qG (by omega) (by omega)]; omega
  | .unk, k, _, h0, hn => by simp only [mkF, tF]; omega
  | .nl _, k, _, h0, hn => by simp only [mkF, tF]; omega
  | .sl _ es, k, ho, h0, hn => by
    simp only [okF] at ho
    simp only [mkF, tF] at *
    have e : (z : Int) * ((es.length + tE es : Nat) : Int) = z * es.length + z * tE es := by push_cast; rw [Int.mul_add]
    rw [e] at hn ⊢
    have := aTd es k ho.2 h0 (by omega)
    omega
theorem aUw {z : Nat} : ∀ (l : List (aE false)) (k : Int), okL z l → 0 ≤ k → k + l.length + z * tL l ≤ cap → k ≤ mkL l k ∧ mkL l k ≤ k + l.length + z * tL l
  | [], k, _, _, _ => by simp [mkL, tL]
  | l :: r, k, ho, h0, hn => by
    simp only [okL] at ho
    have e : (z : Int) * ((tF l + tL r : Nat) : Int) = z * tF l + z * tL r := by push_cast; rw [Int.mul_add]
    have e2 : (((l :: r).length : Nat) : Int) = r.length + 1 := by simp
    rw [show tL (l :: r) = tF l + tL r by simp [tL], e, e2] at hn ⊢
    rw [show mkL (l :: r) k = mkL r (mkF l k) by simp [mkL]]
    have p1 : 0 ≤ (z : Int) * tF l := Int.mul_nonneg (by omega) (by omega)
    have p2 : 0 ≤ (z : Int) * tL r := Int.mul_nonneg (by omega) (by omega)
    have h1 := aVg l k ho.1 h0 (by omega)
    have h2 := aUw r (mkF l k) ho.2 (by omega) (by omega)
    omega
theorem aTd {z : Nat} : ∀ (l : List (List (aE false))) (k : Int), okE z l → 0 ≤ k → k + z * l.length + z * tE l ≤ cap → k ≤ mkE l k ∧ mkE l k ≤ k + z * l.length + z * tE l
  | [], k, _, _, _ => by simp [mkE, tE]
  | e :: r, k, ho, h0, hn => by
    simp only [okE] at ho
    have e1 : (z : Int) * ((tL e + tE r : Nat) : Int) = z * tL e + z * tE r := by push_cast; rw [Int.mul_add]
    have e2 : (z : Int) * (((e :: r).length : Nat) : Int) = z * r.length + z := by rw [List.length_cons]; push_cast; rw [Int.mul_add, Int.mul_one]
    rw [show tE (e :: r) = tL e + tE r by simp [tE], e1, e2] at hn ⊢
    rw [show mkE (e :: r) k = mkE r (mkL e k) by simp [mkE]]
    have p1 : 0 ≤ (z : Int) * tL e := Int.mul_nonneg (by omega) (by omega)
    have p2 : 0 ≤ (z : Int) * tE r := Int.mul_nonneg (by omega) (by omega)
    have p3 : 0 ≤ (z : Int) * r.length := Int.mul_nonneg (by omega) (by omega)
    have h1 := aUw e k ho.2.1 h0 (by omega)
    have h2 := aTd r (mkL e k) ho.2.2 (by omega) (by omega)
    omega
end
theorem bV {m : Bool} {l : List (List (aE m))} {i : Nat} (h : i < l.length) : l.getD i [] = l[i] := by simp [List.getD, h]
theorem kP {α : Type} {l : List α} {i : Nat} (h : i < l.length) : l.drop i = l[i] :: l.drop (i + 1) := List.drop_eq_getElem_cons h
theorem aR {m : Bool} {z : Nat} {es : List (List (aE m))} (h : ∀ e ∈ es, e.length = z) : sized z es = true := by
  simp only [sized, List.all_eq_true, beq_iff_eq]; exact h
theorem lI {m m' : Bool} {φ : Fl m → Fl m'} {z : Nat} {es : List (List (aE m))} (h : ∀ e ∈ es, e.length = z) : ∀ e ∈ reE φ es, e.length = z := by
  intro e he
  rw [xF] at he
  obtain ⟨x, hx, rfl⟩ := List.mem_map.1 he
  rw [aDq]; exact h x hx
theorem yU {m m' : Bool} {φ : Fl m → Fl m'} {es : List (List (aE m))} {i : Nat} (h : i < (reE φ es).length) : (reE φ es)[i] = reL φ (es[i]'(by rwa [cN] at h)) := by
  simp only [xF, List.getElem_map]
theorem vX {m m' : Bool} {φ : Fl m → Fl m'} {es : List (List (aE m))} {i : Nat} (h : i < es.length) : (reE φ es).getD i [] = reL φ es[i] := by
  rw [bV (by rwa [cN]), yU (by rwa [cN])]
theorem aRE : ∀ l : List (aE false), soL l = l.map soF
  | [] => by rw [soL]; rfl
  | l :: r => by rw [soL, List.map_cons, aRE r]
theorem aLX : ∀ l : List (List (aE false)), soE l = l.map soL
  | [] => by rw [soE]; rfl
  | l :: r => by rw [soE, List.map_cons, aLX r]
theorem pJ (l : List (List (aE false))) : (soE l).length = l.length := by rw [aLX, List.length_map]
theorem aAv {z : Nat} {es : List (List (aE false))} (h : ∀ e ∈ es, e.length = z) : ∀ e ∈ soE es, e.length = z := by
  intro e he
  rw [aLX] at he
  obtain ⟨x, hx, rfl⟩ := List.mem_map.1 he
  rw [aRE, List.length_map]; exact h x hx
theorem vP {es : List (List (aE false))} {i : Nat} (h : i < es.length) : (soE es).getD i [] = soL es[i] := by
  rw [aLX, List.getD_eq_getElem?_getD, List.getElem?_map, List.getElem?_eq_getElem h]; rfl
theorem nW {z : Nat} : ∀ {es : List (List (aE false))}, (∀ e ∈ es, e.length ≤ z ∧ okL z e) → okE z es
  | [], _ => by simp [okE]
  | e :: r, h => by
    simp only [okE]
    exact ⟨(h e (by simp)).1, (h e (by simp)).2, nW fun x hx => h x (by simp [hx])⟩
theorem aCa : ∀ {es : List (List (aE false))} {e : List (aE false)}, e ∈ es → tL e ≤ tE es
  | x :: r, e, h => by
    simp only [tE]
    rcases List.mem_cons.1 h with rfl | h
    · omega
    · have := aCa h; omega
def kZ (e : List (aE false)) : Prop := ∃ s : ByteArray, e = [.str s] ∧ s.size ≤ maxLen
theorem kZ.len {e : List (aE false)} (h : kZ e) : e.length = 1 := by obtain ⟨s, rfl, _⟩ := h; rfl
theorem kZ.ok {e : List (aE false)} (h : kZ e) : okL 16 e := by obtain ⟨s, rfl, hs⟩ := h; simp only [okL, okF]; exact ⟨hs, trivial⟩
theorem nI : Fl.isSoft eC = true := rfl
theorem aAG {α : Type} {p : Prop} [Decidable p] {a b : α} (h : p) : (if p then a else b) = a := if_pos h
end Go.Vs
namespace Go.Vs
variable {m : Bool}
theorem aOr {v l1 l2 : List (SV m)} {p q : Nat} (hq : q = p + l1.length) (h : p + l1.length + l2.length ≤ v.length) : kW (kW v p l1) q l2 = kW v p (l1 ++ l2) := by
  subst hq
  unfold kW
  have h1 : (v.take p).length = p := by rw [List.length_take]; omega
  have e1 : (v.take p ++ l1 ++ v.drop (p + l1.length)).take (p + l1.length) = v.take p ++ l1 := by
    rw [List.take_append_of_le_length (by rw [List.length_append, h1]; omega), List.take_of_length_le (by rw [List.length_append, h1]; omega)]
  have e2 : (v.take p ++ l1 ++ v.drop (p + l1.length)).drop (p + l1.length + l2.length) = v.drop (p + (l1.length + l2.length)) := by
    rw [List.drop_append, List.drop_of_length_le (by rw [List.length_append, h1]; omega), List.nil_append, List.drop_drop, List.length_append, h1]
    congr 1; omega
  rw [e1, e2, List.length_append]
  simp only [List.append_assoc]
theorem aIL {v l : List (SV m)} {p : Nat} (h : p + l.length ≤ v.length) : (kW v p l).length = v.length := by
  unfold kW
  simp only [List.length_append, List.length_take, List.length_drop]
  omega
theorem aLg {α : Type} {z : Nat} : ∀ {l : List (List α)} {i o : Nat} (hl : ∀ e ∈ l, e.length = z) (hi : i < l.length) (ho : o < z), l.flatten[i * z + o]? = (l[i])[o]?
  | e :: l, 0, o, hl, hi, ho => by
    rw [List.flatten_cons, List.getElem?_append_left (by rw [hl e (by simp)]; omega)]
    simp
  | e :: l, i + 1, o, hl, hi, ho => by
    have he := hl e (by simp)
    rw [List.flatten_cons, List.getElem?_append_right (by rw [he, Nat.add_mul]; omega), he]
    have : (i + 1) * z + o - z = i * z + o := by rw [Nat.add_mul]; omega
    rw [this, List.getElem_cons_succ]
    exact aLg (fun e h => hl e (by simp [h])) (by simpa using hi) ho
theorem aTo {β : Type} {l : List (List (aE m))} {z : Nat} {r : List (SV m)} {i o p : Nat} (hl : ∀ e ∈ l, e.length = z) (hi : i < l.length) (ho : o < z) (hp : p = i * z + o) (k : SV m → Option β) :
    aHz (gP l l.length r) p k = k (.leaf ((l[i])[o]'(by rw [hl _ (List.getElem_mem hi)]; exact ho))) := by
  subst hp
  have hlen : l.flatten.length = l.length * z := zD hl
  have hm : i * z + o < l.flatten.length := by
    rw [hlen]
    have : (i + 1) * z ≤ l.length * z := Nat.mul_le_mul_right z hi
    rw [Nat.add_mul] at this; omega
  unfold aHz gP
  rw [List.take_length, List.getElem?_append_left (by rw [List.length_map]; exact hm), List.getElem?_map, aLg hl hi ho, List.getElem?_eq_getElem (by rw [hl _ (List.getElem_mem hi)]; exact ho)]
  rfl
theorem aHy {l : List (List (aE m))} {i : Nat} {r : List (SV m)} (h : r.all SV.flat = true) : (gP l i r).all SV.flat = true := by
  unfold gP
  rw [List.all_append, h, Bool.and_true, List.all_map]
  exact List.all_eq_true.2 fun _ _ => rfl
end Go.Vs
namespace Go.Vs
def msL : List (aE false) → Int → Int
  | [], k => k
  | .sl _ es :: r, k => msL r (mkE es k)
  | .bool _ :: r, k => msL r k
  | .int _ _ :: r, k => msL r k
  | .str _ :: r, k => msL r k
  | .unk :: r, k => msL r k
  | .nl _ :: r, k => msL r k
theorem aKX {z : Nat} : ∀ (l : List (aE false)) (k : Int), okL z l → 0 ≤ k → k + z * tL l ≤ cap → k ≤ msL l k ∧ msL l k ≤ k + z * tL l
  | [], k, _, _, _ => by simp [msL, tL]
  | .sl c es :: r, k, ho, h0, hn => by
    simp only [okL, okF] at ho
    have e1 : (z : Int) * ((tL (.sl c es :: r) : Nat) : Int) = z * es.length + z * tE es + z * tL r := by
      rw [show tL (.sl c es :: r) = es.length + tE es + tL r by simp [tL, tF]]
      push_cast; rw [Int.mul_add, Int.mul_add]
    rw [e1] at hn ⊢
    rw [show msL (.sl c es :: r) k = msL r (mkE es k) by simp [msL]]
    have p1 : 0 ≤ (z : Int) * es.length := Int.mul_nonneg (by omega) (by omega)
    have p2 : 0 ≤ (z : Int) * tE es := Int.mul_nonneg (by omega) (by omega)
    have p3 : 0 ≤ (z : Int) * tL r := Int.mul_nonneg (by omega) (by omega)
    have h1 := aTd es k ho.1.2 h0 (by omega)
    have h2 := aKX r (mkE es k) ho.2 (by omega) (by omega)
    omega
  | .bool b :: r, k, ho, h0, hn => by
    simp only [okL] at ho
    have e : tL (.bool b :: r) = tL r := by simp [tL, tF]
    rw [e] at hn ⊢
    exact aKX r k ho.2 h0 hn
  | .int kk b :: r, k, ho, h0, hn => by
    simp only [okL] at ho
    have e : tL (.int kk b :: r) = tL r := by simp [tL, tF]
    rw [e] at hn ⊢
    exact aKX r k ho.2 h0 hn
  | .str b :: r, k, ho, h0, hn => by
    simp only [okL] at ho
    have e : tL (.str b :: r) = tL r := by simp [tL, tF]
    rw [e] at hn ⊢
    exact aKX r k ho.2 h0 hn
  | .unk :: r, k, ho, h0, hn => by
    simp only [okL] at ho
    have e : tL (.unk :: r) = tL r := by simp [tL, tF]
    rw [e] at hn ⊢
    exact aKX r k ho.2 h0 hn
  | .nl b :: r, k, ho, h0, hn => by
    simp only [okL] at ho
    have e : tL (.nl b :: r) = tL r := by simp [tL, tF]
    rw [e] at hn ⊢
    exact aKX r k ho.2 h0 hn
end Go.Vs
end
section
open Go Go.Vs Go.Proofs
namespace Go.Vs
noncomputable abbrev atA {m : Bool} (D : cA m) (f : FuncId) (x : List Nat × St m) : Ret m := atF Tryz.prog D Hs f x.1 0 x.2
end Go.Vs
end
section
open Go Go.Vs Go.Proofs
set_option maxRecDepth 100000
set_option linter.unusedVariables false
namespace Go.Vs
def lJ (c0_0 : Fl true) (e0_0 : LT) (c0_1 : Fl true) (e0_1 : LT) (c0_2 : Fl true) (e0_2 : LT) (i1_0 : Int) (b1_1 : Bool) (s1_2 s1_3 : ByteArray) (c1_4 : Fl true) (e1_4 : LT) (c1_5 : Fl true) (e1_5 : LT) (c1_6 : Fl true) (e1_6 : LT) (c1_7 : Fl true) (e1_7 : LT) (c1_8 : Fl true) (e1_8 : LT) (b1_9 : Bool) (c1_10 : Fl true) (e1_10 : LT) : St true := St.mk [.agg [.sl c0_0 e0_0,.sl c0_1 e0_1,.sl c0_2 e0_2],.agg [.int .i64 i1_0,.bool b1_1,.str s1_2,.str s1_3,.sl c1_4 e1_4,.sl c1_5 e1_5,.sl c1_6 e1_6,.sl c1_7 e1_7,.sl c1_8 e1_8,.bool b1_9,.sl c1_10 e1_10],.any,.any,.any,.any,.any,.any,.any,.any,.any,.any,.any,.any,.any,.any,.any,.any,.any,.any,.any,.any,.any,.any,.any,.any,.any,.any,.any,.any,.any,.any,.any,.any,.any,.any,.any,.any,.any,.any,.any,.any,.any,.any,.any,.any,.any,.any,.any,.any,.any,.any,.any,.any,.any,.any,.any,.any,.any,.any,.any,.any,.any,.any,.any,.any,.any,.any,.any,.any,.any,.any,.any,.any,.any,.any,.any,.any,.any,.any,.any,.any,.any,.any,.any,.any,.any,.any,.any,.any,.any,.any] [none,none,none,none,none,none,none,none,none,none,none,none,none,none,none,none,none,none,none,none,none,none,none,none,none,none,none,none,none,none,none,none,none,none,none,none,none,none,none,none,none,none,none,none,none,none,none,none,none,none,none,none,none,none,none,none,none,none,none,none,none,none,none,none,none,none,none,none,none,none,none,none,none,none,none,none,none,none,none,none,none,none,none,none,none,none,none,none,none,none,none,none]
theorem lL (D : cA true) (J : PT → Ret true) (c0_0 : Fl true) (e0_0 : LT) (c0_1 : Fl true) (e0_1 : LT) (c0_2 : Fl true) (e0_2 : LT) (i1_0 : Int) (b1_1 : Bool) (s1_2 : ByteArray) (s1_3 : ByteArray) (c1_4 : Fl true) (e1_4 : LT) (c1_5 : Fl true) (e1_5 : LT) (c1_6 : Fl true) (e1_6 : LT) (c1_7 : Fl true) (e1_7 : LT) (c1_8 : Fl true) (e1_8 : LT) (b1_9 : Bool) (c1_10 : Fl true) (e1_10 : LT) : aA6 Tryz.prog D Hs F.aV5 [way 7] 0 J (way 0,lJ c0_0 e0_0 c0_1 e0_1 c0_2 e0_2 i1_0 b1_1 s1_2 s1_3 c1_4 e1_4 c1_5 e1_5 c1_6 e1_6 c1_7 e1_7 c1_8 e1_8 b1_9 c1_10 e1_10) = (D F.aXc [.agg [.sl c0_0 e0_0,.sl c0_1 e0_1,.sl c0_2 e0_2],.leaf (.int .i64 1048576)] []).bind fun r => aP r.fst fun l => dQ .i64 l fun n => aB (decide (n < 0)) (some (.leaf (.bool true),[])) ((D F.aYk [.agg [.int .i64 i1_0,.bool b1_1,.str s1_2,.str s1_3,.sl c1_4 e1_4,.sl c1_5 e1_5,.sl c1_6 e1_6,.sl c1_7 e1_7,.sl c1_8 e1_8,.bool b1_9,.sl c1_10 e1_10],.leaf (.int .i64 n)] []).bind fun r => aP r.fst fun l => dQ .i64 l fun n => aB (decide (n < 0)) (some (.leaf (.bool true),[])) ((D F.aW4 [.agg [.sl c0_0 e0_0,.sl c0_1 e0_1,.sl c0_2 e0_2]] []).bind fun r => eV r.fst fun cs => aA (cs.length == 3) (atK cs 0 fun l => slK l fun c es => atK cs 1 fun l => slK l fun c_1 es_1 => atK cs 2 fun l => slK l fun c_2 es_2 => (D F.aYq [.agg [.int .i64 i1_0,.bool b1_1,.str s1_2,.str s1_3,.sl c1_4 e1_4,.sl c1_5 e1_5,.sl c1_6 e1_6,.sl c1_7 e1_7,.sl c1_8 e1_8,.bool b1_9,.sl c1_10 e1_10]] []).bind fun r => eV r.fst fun cs => aA (cs.length == 11) (atK cs 0 fun l => dQ .i64 l fun n => atK cs 1 fun l => dV l fun b => atK cs 2 fun l => cO l fun s => atK cs 3 fun l => cO l fun s_1 => atK cs 4 fun l => slK l fun c_3 es_3 => atK cs 5 fun l => slK l fun c_4 es_4 => atK cs 6 fun l => slK l fun c_5 es_5 => atK cs 7 fun l => slK l fun c_6 es_6 => atK cs 8 fun l => slK l fun c_7 es_7 => atK cs 9 fun l => dV l fun b_1 => atK cs 10 fun l => slK l fun c_8 es_8 => (D F.aWf [.agg [.sl c es,.sl c_1 es_1,.sl c_2 es_2],.agg [.int .i64 n,.bool b,.str s,.str s_1,.sl c_3 es_3,.sl c_4 es_4,.sl c_5 es_5,.sl c_6 es_6,.sl c_7 es_7,.bool b_1,.sl c_8 es_8]] []).bind fun r => qH T.aXJ r.fst fun es => J (way 7,St.mk [.any,.any,.ptr 2 0,.ptr 3 0,.any,.any,.own (some T.aXJ) es,.any,.any,.any,.any,.any,.any,.any,.any,.any,.any,.any,.any,.any,.any,.any,.any,.any,.any,.any,.any,.any,.any,.any,.any,.any,.any,.any,.any,.any,.any,.any,.any,.any,.any,.any,.any,.any,.any,.any,.any,.any,.any,.any,.any,.any,.any,.any,.any,.any,.any,.any,.any,.any,.any,.any,.any,.any,.any,.any,.any,.any,.any,.any,.any,.any,.any,.any,.any,.any,.any,.any,.any,.any,.any,.any,.any,.any,.any,.any,.any,.any,.any,.any,.any,.any] [none,none,some [.leaf (.sl c0_0 e0_0),.leaf (.sl c0_1 e0_1),.leaf (.sl c0_2 e0_2)],some [.leaf (.int .i64 i1_0),.leaf (.bool b1_1),.leaf (.str s1_2),.leaf (.str s1_3),.leaf (.sl c1_4 e1_4),.leaf (.sl c1_5 e1_5),.leaf (.sl c1_6 e1_6),.leaf (.sl c1_7 e1_7),.leaf (.sl c1_8 e1_8),.leaf (.bool b1_9),.leaf (.sl c1_10 e1_10)],none,none,none,none,none,none,none,none,none,none,none,none,none,none,none,none,none,none,none,none,none,none,none,none,none,none,none,none,none,none,none,none,none,none,none,none,none,none,none,none,none,none,none,none,none,none,none,none,none,none,none,none,none,none,none,none,none,none,none,none,none,none,none,none,none,none,none,none,none,none,none,none,none,none,none,none,none,none,none,none,none,none,none,none,none,none,none,none]))))) := by revert J; refine id ?_; intro J; kernel_rfl
def eA (c2 c2_0 : Fl true) (e2_0 : LT) (c2_1 : Fl true) (e2_1 : LT) (c2_2 : Fl true) (e2_2 : LT) (c3 : Fl true) (i3_0 : Int) (b3_1 : Bool) (s3_2 s3_3 : ByteArray) (c3_4 : Fl true) (e3_4 : LT) (c3_5 : Fl true) (e3_5 : LT) (c3_6 : Fl true) (e3_6 : LT) (c3_7 : Fl true) (e3_7 : LT) (c3_8 : Fl true) (e3_8 : LT) (b3_9 : Bool) (c3_10 : Fl true) (e3_10 : LT) (c6 : Fl true) (e6 : LT) : St true := St.mk [.any,.any,.eptr c2 [.sl c2_0 e2_0,.sl c2_1 e2_1,.sl c2_2 e2_2] 0,.eptr c3 [.int .i64 i3_0,.bool b3_1,.str s3_2,.str s3_3,.sl c3_4 e3_4,.sl c3_5 e3_5,.sl c3_6 e3_6,.sl c3_7 e3_7,.sl c3_8 e3_8,.bool b3_9,.sl c3_10 e3_10] 0,.any,.any,.leaf (.sl c6 e6),.any,.any,.any,.any,.any,.any,.any,.any,.any,.any,.any,.any,.any,.any,.any,.any,.any,.any,.any,.any,.any,.any,.any,.any,.any,.any,.any,.any,.any,.any,.any,.any,.any,.any,.any,.any,.any,.any,.any,.any,.any,.any,.any,.any,.any,.any,.any,.any,.any,.any,.any,.any,.any,.any,.any,.any,.any,.any,.any,.any,.any,.any,.any,.any,.any,.any,.any,.any,.any,.any,.any,.any,.any,.any,.any,.any,.any,.any,.any,.any,.any,.any,.any,.any,.any] [none,none,none,none,none,none,none,none,none,none,none,none,none,none,none,none,none,none,none,none,none,none,none,none,none,none,none,none,none,none,none,none,none,none,none,none,none,none,none,none,none,none,none,none,none,none,none,none,none,none,none,none,none,none,none,none,none,none,none,none,none,none,none,none,none,none,none,none,none,none,none,none,none,none,none,none,none,none,none,none,none,none,none,none,none,none,none,none,none,none,none,none]
theorem aAx (D : cA true) (J : PT → Ret true) (c2 : Fl true) (c2_0 : Fl true) (e2_0 : LT) (c2_1 : Fl true) (e2_1 : LT) (c2_2 : Fl true) (e2_2 : LT) (c3 : Fl true) (i3_0 : Int) (b3_1 : Bool) (s3_2 : ByteArray) (s3_3 : ByteArray) (c3_4 : Fl true) (e3_4 : LT) (c3_5 : Fl true) (e3_5 : LT) (c3_6 : Fl true) (e3_6 : LT) (c3_7 : Fl true) (e3_7 : LT) (c3_8 : Fl true) (e3_8 : LT) (b3_9 : Bool) (c3_10 : Fl true) (e3_10 : LT) (c6 : Fl true) (e6 : LT) : aA6 Tryz.prog D Hs F.aV5 [way 9] 0 J (way 7,eA c2 c2_0 e2_0 c2_1 e2_1 c2_2 e2_2 c3 i3_0 b3_1 s3_2 s3_3 c3_4 e3_4 c3_5 e3_5 c3_6 e3_6 c3_7 e3_7 c3_8 e3_8 b3_9 c3_10 e3_10 c6 e6) = (D F.aW4 [.agg [.sl c2_0 e2_0,.sl c2_1 e2_1,.sl c2_2 e2_2]] []).bind fun r => eV r.fst fun cs => aA (cs.length == 3) (atK cs 0 fun l => slK l fun c es => atK cs 1 fun l => slK l fun c_1 es_1 => atK cs 2 fun l => slK l fun c_2 es_2 => (D F.aYq [.agg [.int .i64 i3_0,.bool b3_1,.str s3_2,.str s3_3,.sl c3_4 e3_4,.sl c3_5 e3_5,.sl c3_6 e3_6,.sl c3_7 e3_7,.sl c3_8 e3_8,.bool b3_9,.sl c3_10 e3_10]] []).bind fun r => eV r.fst fun cs => aA (cs.length == 11) (atK cs 0 fun l => dQ .i64 l fun n => atK cs 1 fun l => dV l fun b => atK cs 2 fun l => cO l fun s => atK cs 3 fun l => cO l fun s_1 => atK cs 4 fun l => slK l fun c_3 es_3 => atK cs 5 fun l => slK l fun c_4 es_4 => atK cs 6 fun l => slK l fun c_5 es_5 => atK cs 7 fun l => slK l fun c_6 es_6 => atK cs 8 fun l => slK l fun c_7 es_7 => atK cs 9 fun l => dV l fun b_1 => atK cs 10 fun l => slK l fun c_8 es_8 => J (way 9,St.mk [.any,.any,.eptr c2 [.sl c2_0 e2_0,.sl c2_1 e2_1,.sl c2_2 e2_2] 0,.eptr c3 [.int .i64 i3_0,.bool b3_1,.str s3_2,.str s3_3,.sl c3_4 e3_4,.sl c3_5 e3_5,.sl c3_6 e3_6,.sl c3_7 e3_7,.sl c3_8 e3_8,.bool b3_9,.sl c3_10 e3_10] 0,.any,.any,.leaf (.sl c6 e6),.ptr 7 0,.ptr 8 0,.any,.any,.any,.any,.any,.any,.any,.any,.any,.any,.any,.any,.any,.any,.any,.any,.any,.any,.any,.any,.any,.any,.any,.any,.any,.any,.any,.any,.any,.any,.any,.any,.any,.any,.any,.any,.any,.any,.any,.any,.any,.any,.any,.any,.any,.any,.any,.any,.any,.any,.any,.any,.any,.any,.any,.any,.any,.any,.any,.any,.any,.any,.any,.any,.any,.any,.any,.any,.any,.any,.any,.any,.any,.any,.any,.any,.any,.any,.any,.any,.any,.any,.any] [none,none,none,none,none,none,none,some [.leaf (.sl c es),.leaf (.sl c_1 es_1),.leaf (.sl c_2 es_2)],some [.leaf (.int .i64 n),.leaf (.bool b),.leaf (.str s),.leaf (.str s_1),.leaf (.sl c_3 es_3),.leaf (.sl c_4 es_4),.leaf (.sl c_5 es_5),.leaf (.sl c_6 es_6),.leaf (.sl c_7 es_7),.leaf (.bool b_1),.leaf (.sl c_8 es_8)],none,none,none,none,none,none,none,none,none,none,none,none,none,none,none,none,none,none,none,none,none,none,none,none,none,none,none,none,none,none,none,none,none,none,none,none,none,none,none,none,none,none,none,none,none,none,none,none,none,none,none,none,none,none,none,none,none,none,none,none,none,none,none,none,none,none,none,none,none,none,none,none,none,none,none,none,none,none,none,none,none,none,none]))) := by revert J; refine id ?_; intro J; kernel_rfl
def cG (c2 c2_0 : Fl true) (e2_0 : LT) (c2_1 : Fl true) (e2_1 : LT) (c2_2 : Fl true) (e2_2 : LT) (c3 : Fl true) (i3_0 : Int) (b3_1 : Bool) (s3_2 s3_3 : ByteArray) (c3_4 : Fl true) (e3_4 : LT) (c3_5 : Fl true) (e3_5 : LT) (c3_6 : Fl true) (e3_6 : LT) (c3_7 : Fl true) (e3_7 : LT) (c3_8 : Fl true) (e3_8 : LT) (b3_9 : Bool) (c3_10 : Fl true) (e3_10 : LT) (c6 : Fl true) (e6 : LT) (c7 c7_0 : Fl true) (e7_0 : LT) (c7_1 : Fl true) (e7_1 : LT) (c7_2 : Fl true) (e7_2 : LT) (c8 : Fl true) (i8_0 : Int) (b8_1 : Bool) (s8_2 s8_3 : ByteArray) (c8_4 : Fl true) (e8_4 : LT) (c8_5 : Fl true) (e8_5 : LT) (c8_6 : Fl true) (e8_6 : LT) (c8_7 : Fl true) (e8_7 : LT) (c8_8 : Fl true) (e8_8 : LT) (b8_9 : Bool) (c8_10 : Fl true) (e8_10 : LT) : St true := St.mk [.any,.any,.eptr c2 [.sl c2_0 e2_0,.sl c2_1 e2_1,.sl c2_2 e2_2] 0,.eptr c3 [.int .i64 i3_0,.bool b3_1,.str s3_2,.str s3_3,.sl c3_4 e3_4,.sl c3_5 e3_5,.sl c3_6 e3_6,.sl c3_7 e3_7,.sl c3_8 e3_8,.bool b3_9,.sl c3_10 e3_10] 0,.any,.any,.leaf (.sl c6 e6),.eptr c7 [.sl c7_0 e7_0,.sl c7_1 e7_1,.sl c7_2 e7_2] 0,.eptr c8 [.int .i64 i8_0,.bool b8_1,.str s8_2,.str s8_3,.sl c8_4 e8_4,.sl c8_5 e8_5,.sl c8_6 e8_6,.sl c8_7 e8_7,.sl c8_8 e8_8,.bool b8_9,.sl c8_10 e8_10] 0,.any,.any,.any,.any,.any,.any,.any,.any,.any,.any,.any,.any,.any,.any,.any,.any,.any,.any,.any,.any,.any,.any,.any,.any,.any,.any,.any,.any,.any,.any,.any,.any,.any,.any,.any,.any,.any,.any,.any,.any,.any,.any,.any,.any,.any,.any,.any,.any,.any,.any,.any,.any,.any,.any,.any,.any,.any,.any,.any,.any,.any,.any,.any,.any,.any,.any,.any,.any,.any,.any,.any,.any,.any,.any,.any,.any,.any,.any,.any,.any,.any,.any,.any] [none,none,none,none,none,none,none,none,none,none,none,none,none,none,none,none,none,none,none,none,none,none,none,none,none,none,none,none,none,none,none,none,none,none,none,none,none,none,none,none,none,none,none,none,none,none,none,none,none,none,none,none,none,none,none,none,none,none,none,none,none,none,none,none,none,none,none,none,none,none,none,none,none,none,none,none,none,none,none,none,none,none,none,none,none,none,none,none,none,none,none,none]
theorem aAC (D : cA true) (J : PT → Ret true) (c2 : Fl true) (c2_0 : Fl true) (e2_0 : LT) (c2_1 : Fl true) (e2_1 : LT) (c2_2 : Fl true) (e2_2 : LT) (c3 : Fl true) (i3_0 : Int) (b3_1 : Bool) (s3_2 : ByteArray) (s3_3 : ByteArray) (c3_4 : Fl true) (e3_4 : LT) (c3_5 : Fl true) (e3_5 : LT) (c3_6 : Fl true) (e3_6 : LT) (c3_7 : Fl true) (e3_7 : LT) (c3_8 : Fl true) (e3_8 : LT) (b3_9 : Bool) (c3_10 : Fl true) (e3_10 : LT) (c6 : Fl true) (e6 : LT) (c7 : Fl true) (c7_0 : Fl true) (e7_0 : LT) (c7_1 : Fl true) (e7_1 : LT) (c7_2 : Fl true) (e7_2 : LT) (c8 : Fl true) (i8_0 : Int) (b8_1 : Bool) (s8_2 : ByteArray) (s8_3 : ByteArray) (c8_4 : Fl true) (e8_4 : LT) (c8_5 : Fl true) (e8_5 : LT) (c8_6 : Fl true) (e8_6 : LT) (c8_7 : Fl true) (e8_7 : LT) (c8_8 : Fl true) (e8_8 : LT) (b8_9 : Bool) (c8_10 : Fl true) (e8_10 : LT) : aA6 Tryz.prog D Hs F.aV5 [way 13] 0 J (way 9,cG c2 c2_0 e2_0 c2_1 e2_1 c2_2 e2_2 c3 i3_0 b3_1 s3_2 s3_3 c3_4 e3_4 c3_5 e3_5 c3_6 e3_6 c3_7 e3_7 c3_8 e3_8 b3_9 c3_10 e3_10 c6 e6 c7 c7_0 e7_0 c7_1 e7_1 c7_2 e7_2 c8 i8_0 b8_1 s8_2 s8_3 c8_4 e8_4 c8_5 e8_5 c8_6 e8_6 c8_7 e8_7 c8_8 e8_8 b8_9 c8_10 e8_10) = (D F.aWi [.agg [.sl c7_0 e7_0,.sl c7_1 e7_1,.sl c7_2 e7_2],.agg [.int .i64 i8_0,.bool b8_1,.str s8_2,.str s8_3,.sl c8_4 e8_4,.sl c8_5 e8_5,.sl c8_6 e8_6,.sl c8_7 e8_7,.sl c8_8 e8_8,.bool b8_9,.sl c8_10 e8_10]] []).bind fun r => qH T.aXJ r.fst fun es => (D F.aWA [.leaf (.sl aM es),.leaf (.sl c6 e6)] []).bind fun r => aP r.fst fun l => dV l fun b => aB (!b) (some (.leaf (.bool false),[])) ((D F.aW4 [.agg [.sl c2_0 e2_0,.sl c2_1 e2_1,.sl c2_2 e2_2]] []).bind fun r => eV r.fst fun cs => aA (cs.length == 3) (atK cs 0 fun l => slK l fun c es_1 => atK cs 1 fun l => slK l fun c_1 es_2 => atK cs 2 fun l => slK l fun c_2 es_3 => (D F.aXh [.agg [.sl c7_0 e7_0,.sl c7_1 e7_1,.sl c7_2 e7_2],.agg [.sl c es_1,.sl c_1 es_2,.sl c_2 es_3]] []).bind fun r => aP r.fst fun l => dV l fun b => aB (!b) (some (.leaf (.bool false),[])) ((D F.aYq [.agg [.int .i64 i3_0,.bool b3_1,.str s3_2,.str s3_3,.sl c3_4 e3_4,.sl c3_5 e3_5,.sl c3_6 e3_6,.sl c3_7 e3_7,.sl c3_8 e3_8,.bool b3_9,.sl c3_10 e3_10]] []).bind fun r => eV r.fst fun cs => aA (cs.length == 11) (atK cs 0 fun l => dQ .i64 l fun n => atK cs 1 fun l => dV l fun b => atK cs 2 fun l => cO l fun s => atK cs 3 fun l => cO l fun s_1 => atK cs 4 fun l => slK l fun c es_4 => atK cs 5 fun l => slK l fun c_3 es_5 => atK cs 6 fun l => slK l fun c_4 es_6 => atK cs 7 fun l => slK l fun c_5 es_7 => atK cs 8 fun l => slK l fun c_6 es_8 => atK cs 9 fun l => dV l fun b_1 => atK cs 10 fun l => slK l fun c_7 es_9 => (D F.aYs [.agg [.int .i64 i8_0,.bool b8_1,.str s8_2,.str s8_3,.sl c8_4 e8_4,.sl c8_5 e8_5,.sl c8_6 e8_6,.sl c8_7 e8_7,.sl c8_8 e8_8,.bool b8_9,.sl c8_10 e8_10],.agg [.int .i64 n,.bool b,.str s,.str s_1,.sl c es_4,.sl c_3 es_5,.sl c_4 es_6,.sl c_5 es_7,.sl c_6 es_8,.bool b_1,.sl c_7 es_9]] []).bind fun r => aP r.fst fun l => dV l fun b => aB (!b) (some (.leaf (.bool false),[])) (J (way 13,St.mk [.any,.any,.eptr c2 [.sl c2_0 e2_0,.sl c2_1 e2_1,.sl c2_2 e2_2] 0,.eptr c3 [.int .i64 i3_0,.bool b3_1,.str s3_2,.str s3_3,.sl c3_4 e3_4,.sl c3_5 e3_5,.sl c3_6 e3_6,.sl c3_7 e3_7,.sl c3_8 e3_8,.bool b3_9,.sl c3_10 e3_10] 0,.any,.any,.leaf (.sl c6 e6),.eptr c7 [.sl c7_0 e7_0,.sl c7_1 e7_1,.sl c7_2 e7_2] 0,.eptr c8 [.int .i64 i8_0,.bool b8_1,.str s8_2,.str s8_3,.sl c8_4 e8_4,.sl c8_5 e8_5,.sl c8_6 e8_6,.sl c8_7 e8_7,.sl c8_8 e8_8,.bool b8_9,.sl c8_10 e8_10] 0,.own (some T.aXJ) es,.any,.any,.any,.any,.any,.any,.any,.any,.any,.any,.any,.any,.any,.any,.any,.any,.any,.any,.any,.any,.any,.any,.any,.any,.any,.any,.any,.any,.any,.any,.any,.any,.any,.any,.any,.any,.any,.any,.any,.any,.any,.any,.any,.any,.any,.any,.any,.any,.any,.any,.any,.any,.any,.any,.any,.any,.any,.any,.any,.any,.any,.any,.any,.any,.any,.any,.any,.any,.any,.any,.any,.any,.any,.any,.any,.any,.any,.any,.any,.any,.any,.any] [none,none,none,none,none,none,none,none,none,none,none,none,none,none,none,none,none,none,none,none,none,none,none,none,none,none,none,none,none,none,none,none,none,none,none,none,none,none,none,none,none,none,none,none,none,none,none,none,none,none,none,none,none,none,none,none,none,none,none,none,none,none,none,none,none,none,none,none,none,none,none,none,none,none,none,none,none,none,none,none,none,none,none,none,none,none,none,none,none,none,none,none])))))) := by revert J; refine id ?_; intro J; kernel_rfl
def cH (c2 c2_0 : Fl true) (e2_0 : LT) (c2_1 : Fl true) (e2_1 : LT) (c2_2 : Fl true) (e2_2 : LT) (c3 : Fl true) (i3_0 : Int) (b3_1 : Bool) (s3_2 s3_3 : ByteArray) (c3_4 : Fl true) (e3_4 : LT) (c3_5 : Fl true) (e3_5 : LT) (c3_6 : Fl true) (e3_6 : LT) (c3_7 : Fl true) (e3_7 : LT) (c3_8 : Fl true) (e3_8 : LT) (b3_9 : Bool) (c3_10 : Fl true) (e3_10 : LT) (c6 : Fl true) (e6 : LT) (c7 c7_0 : Fl true) (e7_0 : LT) (c7_1 : Fl true) (e7_1 : LT) (c7_2 : Fl true) (e7_2 : LT) (c8 : Fl true) (i8_0 : Int) (b8_1 : Bool) (s8_2 s8_3 : ByteArray) (c8_4 : Fl true) (e8_4 : LT) (c8_5 : Fl true) (e8_5 : LT) (c8_6 : Fl true) (e8_6 : LT) (c8_7 : Fl true) (e8_7 : LT) (c8_8 : Fl true) (e8_8 : LT) (b8_9 : Bool) (c8_10 : Fl true) (e8_10 : LT) (c9 : Fl true) (e9 : LT) : St true := St.mk [.any,.any,.eptr c2 [.sl c2_0 e2_0,.sl c2_1 e2_1,.sl c2_2 e2_2] 0,.eptr c3 [.int .i64 i3_0,.bool b3_1,.str s3_2,.str s3_3,.sl c3_4 e3_4,.sl c3_5 e3_5,.sl c3_6 e3_6,.sl c3_7 e3_7,.sl c3_8 e3_8,.bool b3_9,.sl c3_10 e3_10] 0,.any,.any,.leaf (.sl c6 e6),.eptr c7 [.sl c7_0 e7_0,.sl c7_1 e7_1,.sl c7_2 e7_2] 0,.eptr c8 [.int .i64 i8_0,.bool b8_1,.str s8_2,.str s8_3,.sl c8_4 e8_4,.sl c8_5 e8_5,.sl c8_6 e8_6,.sl c8_7 e8_7,.sl c8_8 e8_8,.bool b8_9,.sl c8_10 e8_10] 0,.leaf (.sl c9 e9),.any,.any,.any,.any,.any,.any,.any,.any,.any,.any,.any,.any,.any,.any,.any,.any,.any,.any,.any,.any,.any,.any,.any,.any,.any,.any,.any,.any,.any,.any,.any,.any,.any,.any,.any,.any,.any,.any,.any,.any,.any,.any,.any,.any,.any,.any,.any,.any,.any,.any,.any,.any,.any,.any,.any,.any,.any,.any,.any,.any,.any,.any,.any,.any,.any,.any,.any,.any,.any,.any,.any,.any,.any,.any,.any,.any,.any,.any,.any,.any,.any,.any] [none,none,none,none,none,none,none,none,none,none,none,none,none,none,none,none,none,none,none,none,none,none,none,none,none,none,none,none,none,none,none,none,none,none,none,none,none,none,none,none,none,none,none,none,none,none,none,none,none,none,none,none,none,none,none,none,none,none,none,none,none,none,none,none,none,none,none,none,none,none,none,none,none,none,none,none,none,none,none,none,none,none,none,none,none,none,none,none,none,none,none,none]
theorem aAw (D : cA true) (J : PT → Ret true) (c2 : Fl true) (c2_0 : Fl true) (e2_0 : LT) (c2_1 : Fl true) (e2_1 : LT) (c2_2 : Fl true) (e2_2 : LT) (c3 : Fl true) (i3_0 : Int) (b3_1 : Bool) (s3_2 : ByteArray) (s3_3 : ByteArray) (c3_4 : Fl true) (e3_4 : LT) (c3_5 : Fl true) (e3_5 : LT) (c3_6 : Fl true) (e3_6 : LT) (c3_7 : Fl true) (e3_7 : LT) (c3_8 : Fl true) (e3_8 : LT) (b3_9 : Bool) (c3_10 : Fl true) (e3_10 : LT) (c6 : Fl true) (e6 : LT) (c7 : Fl true) (c7_0 : Fl true) (e7_0 : LT) (c7_1 : Fl true) (e7_1 : LT) (c7_2 : Fl true) (e7_2 : LT) (c8 : Fl true) (i8_0 : Int) (b8_1 : Bool) (s8_2 : ByteArray) (s8_3 : ByteArray) (c8_4 : Fl true) (e8_4 : LT) (c8_5 : Fl true) (e8_5 : LT) (c8_6 : Fl true) (e8_6 : LT) (c8_7 : Fl true) (e8_7 : LT) (c8_8 : Fl true) (e8_8 : LT) (b8_9 : Bool) (c8_10 : Fl true) (e8_10 : LT) (c9 : Fl true) (e9 : LT) : aA6 Tryz.prog D Hs F.aV5 [way 17] 0 J (way 13,cH c2 c2_0 e2_0 c2_1 e2_1 c2_2 e2_2 c3 i3_0 b3_1 s3_2 s3_3 c3_4 e3_4 c3_5 e3_5 c3_6 e3_6 c3_7 e3_7 c3_8 e3_8 b3_9 c3_10 e3_10 c6 e6 c7 c7_0 e7_0 c7_1 e7_1 c7_2 e7_2 c8 i8_0 b8_1 s8_2 s8_3 c8_4 e8_4 c8_5 e8_5 c8_6 e8_6 c8_7 e8_7 c8_8 e8_8 b8_9 c8_10 e8_10 c9 e9) = (D F.aWw [.agg [.sl c7_0 e7_0,.sl c7_1 e7_1,.sl c7_2 e7_2],.leaf (.int .i64 1)] []).bind fun r => mO r.snd (aP r.fst fun l => dQ .i64 l fun n => (D F.aXw [.agg [.int .i64 i8_0,.bool b8_1,.str s8_2,.str s8_3,.sl c8_4 e8_4,.sl c8_5 e8_5,.sl c8_6 e8_6,.sl c8_7 e8_7,.sl c8_8 e8_8,.bool b8_9,.sl c8_10 e8_10],.leaf (.int .i64 n)] []).bind fun r => mO r.snd (aP r.fst fun l => dQ .i64 l fun n => aB (decide (n < 0) == false) ((D F.aWA [.leaf (.sl c9 e9),.leaf (.sl c6 e6)] []).bind fun r => aP r.fst fun l => dV l fun b => aB (!b) (some (.leaf (.bool false),[])) (J (way 17,St.mk [.any,.any,.eptr c2 [.sl c2_0 e2_0,.sl c2_1 e2_1,.sl c2_2 e2_2] 0,.eptr c3 [.int .i64 i3_0,.bool b3_1,.str s3_2,.str s3_3,.sl c3_4 e3_4,.sl c3_5 e3_5,.sl c3_6 e3_6,.sl c3_7 e3_7,.sl c3_8 e3_8,.bool b3_9,.sl c3_10 e3_10] 0,.any,.any,.leaf (.sl c6 e6),.any,.any,.leaf (.sl c9 e9),.any,.any,.any,.any,.any,.any,.any,.any,.any,.any,.any,.any,.any,.any,.any,.any,.any,.any,.any,.any,.any,.any,.any,.any,.any,.any,.any,.any,.any,.any,.any,.any,.any,.any,.any,.any,.any,.any,.any,.any,.any,.any,.any,.any,.any,.any,.any,.any,.any,.any,.any,.any,.any,.any,.any,.any,.any,.any,.any,.any,.any,.any,.any,.any,.any,.any,.any,.any,.any,.any,.any,.any,.any,.any,.any,.any,.any,.any,.any,.any,.any,.any] [none,none,none,none,none,none,none,none,none,none,none,none,none,none,none,none,none,none,none,none,none,none,none,none,none,none,none,none,none,none,none,none,none,none,none,none,none,none,none,none,none,none,none,none,none,none,none,none,none,none,none,none,none,none,none,none,none,none,none,none,none,none,none,none,none,none,none,none,none,none,none,none,none,none,none,none,none,none,none,none,none,none,none,none,none,none,none,none,none,none,none,none]))) (some (.leaf (.bool false),[])))) := by revert J; refine id ?_; intro J; kernel_rfl
def dY (c2 c2_0 : Fl true) (e2_0 : LT) (c2_1 : Fl true) (e2_1 : LT) (c2_2 : Fl true) (e2_2 : LT) (c3 : Fl true) (i3_0 : Int) (b3_1 : Bool) (s3_2 s3_3 : ByteArray) (c3_4 : Fl true) (e3_4 : LT) (c3_5 : Fl true) (e3_5 : LT) (c3_6 : Fl true) (e3_6 : LT) (c3_7 : Fl true) (e3_7 : LT) (c3_8 : Fl true) (e3_8 : LT) (b3_9 : Bool) (c3_10 : Fl true) (e3_10 : LT) (c6 : Fl true) (e6 : LT) (c9 : Fl true) (e9 : LT) : St true := St.mk [.any,.any,.eptr c2 [.sl c2_0 e2_0,.sl c2_1 e2_1,.sl c2_2 e2_2] 0,.eptr c3 [.int .i64 i3_0,.bool b3_1,.str s3_2,.str s3_3,.sl c3_4 e3_4,.sl c3_5 e3_5,.sl c3_6 e3_6,.sl c3_7 e3_7,.sl c3_8 e3_8,.bool b3_9,.sl c3_10 e3_10] 0,.any,.any,.leaf (.sl c6 e6),.any,.any,.leaf (.sl c9 e9),.any,.any,.any,.any,.any,.any,.any,.any,.any,.any,.any,.any,.any,.any,.any,.any,.any,.any,.any,.any,.any,.any,.any,.any,.any,.any,.any,.any,.any,.any,.any,.any,.any,.any,.any,.any,.any,.any,.any,.any,.any,.any,.any,.any,.any,.any,.any,.any,.any,.any,.any,.any,.any,.any,.any,.any,.any,.any,.any,.any,.any,.any,.any,.any,.any,.any,.any,.any,.any,.any,.any,.any,.any,.any,.any,.any,.any,.any,.any,.any,.any,.any] [none,none,none,none,none,none,none,none,none,none,none,none,none,none,none,none,none,none,none,none,none,none,none,none,none,none,none,none,none,none,none,none,none,none,none,none,none,none,none,none,none,none,none,none,none,none,none,none,none,none,none,none,none,none,none,none,none,none,none,none,none,none,none,none,none,none,none,none,none,none,none,none,none,none,none,none,none,none,none,none,none,none,none,none,none,none,none,none,none,none,none,none]
theorem aAE (D : cA true) (J : PT → Ret true) (c2 : Fl true) (c2_0 : Fl true) (e2_0 : LT) (c2_1 : Fl true) (e2_1 : LT) (c2_2 : Fl true) (e2_2 : LT) (c3 : Fl true) (i3_0 : Int) (b3_1 : Bool) (s3_2 : ByteArray) (s3_3 : ByteArray) (c3_4 : Fl true) (e3_4 : LT) (c3_5 : Fl true) (e3_5 : LT) (c3_6 : Fl true) (e3_6 : LT) (c3_7 : Fl true) (e3_7 : LT) (c3_8 : Fl true) (e3_8 : LT) (b3_9 : Bool) (c3_10 : Fl true) (e3_10 : LT) (c6 : Fl true) (e6 : LT) (c9 : Fl true) (e9 : LT) : aA6 Tryz.prog D Hs F.aV5 [] 0 J (way 17,dY c2 c2_0 e2_0 c2_1 e2_1 c2_2 e2_2 c3 i3_0 b3_1 s3_2 s3_3 c3_4 e3_4 c3_5 e3_5 c3_6 e3_6 c3_7 e3_7 c3_8 e3_8 b3_9 c3_10 e3_10 c6 e6 c9 e9) = (D F.aWo [.leaf (.sl c9 e9),.leaf (.int .i64 1)] []).bind fun r => mO r.snd (aP r.fst fun l => dQ .i64 l fun n => (D F.aWl [.leaf (.sl c9 e9),.leaf (.int .i64 1)] []).bind fun r => mO r.snd (aP r.fst fun l => dQ .i64 l fun n_1 => aB (decide (n_1 < 0)) (some (.leaf (.bool false),[])) (aB (n_1 != n) (some (.leaf (.bool false),[])) ((D F.aW4 [.agg [.sl c2_0 e2_0,.sl c2_1 e2_1,.sl c2_2 e2_2]] []).bind fun r => eV r.fst fun cs => aA (cs.length == 3) (atK cs 0 fun l => slK l fun c es => atK cs 1 fun l => slK l fun c_1 es_1 => atK cs 2 fun l => slK l fun c_2 es_2 => (D F.aYq [.agg [.int .i64 i3_0,.bool b3_1,.str s3_2,.str s3_3,.sl c3_4 e3_4,.sl c3_5 e3_5,.sl c3_6 e3_6,.sl c3_7 e3_7,.sl c3_8 e3_8,.bool b3_9,.sl c3_10 e3_10]] []).bind fun r => eV r.fst fun cs => aA (cs.length == 11) (atK cs 0 fun l => dQ .i64 l fun n_2 => atK cs 1 fun l => dV l fun b => atK cs 2 fun l => cO l fun s => atK cs 3 fun l => cO l fun s_1 => atK cs 4 fun l => slK l fun c_3 es_3 => atK cs 5 fun l => slK l fun c_4 es_4 => atK cs 6 fun l => slK l fun c_5 es_5 => atK cs 7 fun l => slK l fun c_6 es_6 => atK cs 8 fun l => slK l fun c_7 es_7 => atK cs 9 fun l => dV l fun b_1 => atK cs 10 fun l => slK l fun c_8 es_8 => (D F.aWi [.agg [.sl c es,.sl c_1 es_1,.sl c_2 es_2],.agg [.int .i64 n_2,.bool b,.str s,.str s_1,.sl c_3 es_3,.sl c_4 es_4,.sl c_5 es_5,.sl c_6 es_6,.sl c_7 es_7,.bool b_1,.sl c_8 es_8]] []).bind fun r => qH T.aXJ r.fst fun es => (D F.aWA [.leaf (.sl aM es),.leaf (.sl c6 e6)] []).bind fun r => aP r.fst fun l => dV l fun b => aB (!b) (some (.leaf (.bool false),[])) ((D F.aWl [.leaf (.sl c9 e9),.leaf (.int .i64 1)] []).bind fun r => mO r.snd (aP r.fst fun l => dQ .i64 l fun n_3 => aB (decide (n_3 < 0)) (some (.leaf (.bool false),[])) (aB (n_3 != n) (some (.leaf (.bool false),[])) (some (.leaf (.bool true),[]))))))))))) := by revert J; refine id ?_; intro J; kernel_rfl
def qA (c2 c2_0 : Fl true) (e2_0 : LT) (c2_1 : Fl true) (e2_1 : LT) (c2_2 : Fl true) (e2_2 : LT) (c3 : Fl true) (i3_0 : Int) (b3_1 : Bool) (s3_2 s3_3 : ByteArray) (c3_4 : Fl true) (e3_4 : LT) (c3_5 : Fl true) (e3_5 : LT) (c3_6 : Fl true) (e3_6 : LT) (c3_7 : Fl true) (e3_7 : LT) (c3_8 : Fl true) (e3_8 : LT) (b3_9 : Bool) (c3_10 : Fl true) (e3_10 : LT) (c6 : Fl true) (e6 : LT) (n9 : Nat) (vx9 : List (SV true)) : St true := St.mk [.any,.any,.eptr c2 [.sl c2_0 e2_0,.sl c2_1 e2_1,.sl c2_2 e2_2] 0,.eptr c3 [.int .i64 i3_0,.bool b3_1,.str s3_2,.str s3_3,.sl c3_4 e3_4,.sl c3_5 e3_5,.sl c3_6 e3_6,.sl c3_7 e3_7,.sl c3_8 e3_8,.bool b3_9,.sl c3_10 e3_10] 0,.any,.any,.leaf (.sl c6 e6),.any,.any,.bsl 9 3 0 n9,.any,.any,.any,.any,.any,.any,.any,.any,.any,.any,.any,.any,.any,.any,.any,.any,.any,.any,.any,.any,.any,.any,.any,.any,.any,.any,.any,.any,.any,.any,.any,.any,.any,.any,.any,.any,.any,.any,.any,.any,.any,.any,.any,.any,.any,.any,.any,.any,.any,.any,.any,.any,.any,.any,.any,.any,.any,.any,.any,.any,.any,.any,.any,.any,.any,.any,.any,.any,.any,.any,.any,.any,.any,.any,.any,.any,.any,.any,.any,.any,.any,.any] [none,none,none,none,none,none,none,none,none,some vx9,none,none,none,none,none,none,none,none,none,none,none,none,none,none,none,none,none,none,none,none,none,none,none,none,none,none,none,none,none,none,none,none,none,none,none,none,none,none,none,none,none,none,none,none,none,none,none,none,none,none,none,none,none,none,none,none,none,none,none,none,none,none,none,none,none,none,none,none,none,none,none,none,none,none,none,none,none,none,none,none,none,none]
theorem aAb (D : cA true) (J : PT → Ret true) (c2 : Fl true) (c2_0 : Fl true) (e2_0 : LT) (c2_1 : Fl true) (e2_1 : LT) (c2_2 : Fl true) (e2_2 : LT) (c3 : Fl true) (i3_0 : Int) (b3_1 : Bool) (s3_2 : ByteArray) (s3_3 : ByteArray) (c3_4 : Fl true) (e3_4 : LT) (c3_5 : Fl true) (e3_5 : LT) (c3_6 : Fl true) (e3_6 : LT) (c3_7 : Fl true) (e3_7 : LT) (c3_8 : Fl true) (e3_8 : LT) (b3_9 : Bool) (c3_10 : Fl true) (e3_10 : LT) (c6 : Fl true) (e6 : LT) (n9 : Nat) (vx9 : List (SV true)) : aA6 Tryz.prog D Hs F.aV5 [] 0 J (way 17,qA c2 c2_0 e2_0 c2_1 e2_1 c2_2 e2_2 c3 i3_0 b3_1 s3_2 s3_3 c3_4 e3_4 c3_5 e3_5 c3_6 e3_6 c3_7 e3_7 c3_8 e3_8 b3_9 c3_10 e3_10 c6 e6 n9 vx9) = aA ([vx9].all fun x => x.all SV.flat) ((D F.aWo [.bsl 0 3 0 n9,.leaf (.int .i64 1)] [vx9]).bind fun r => rE r.snd fun d r_1 => mO r_1 (aP r.fst fun l => dQ .i64 l fun n => aA ([d].all fun x => x.all SV.flat) ((D F.aWl [.bsl 0 3 0 n9,.leaf (.int .i64 1)] [d]).bind fun r => rE r.snd fun d r_2 => mO r_2 (aP r.fst fun l => dQ .i64 l fun n_1 => aB (decide (n_1 < 0)) (some (.leaf (.bool false),[])) (aB (n_1 != n) (some (.leaf (.bool false),[])) ((D F.aW4 [.agg [.sl c2_0 e2_0,.sl c2_1 e2_1,.sl c2_2 e2_2]] []).bind fun r => eV r.fst fun cs => aA (cs.length == 3) (atK cs 0 fun l => slK l fun c es => atK cs 1 fun l => slK l fun c_1 es_1 => atK cs 2 fun l => slK l fun c_2 es_2 => (D F.aYq [.agg [.int .i64 i3_0,.bool b3_1,.str s3_2,.str s3_3,.sl c3_4 e3_4,.sl c3_5 e3_5,.sl c3_6 e3_6,.sl c3_7 e3_7,.sl c3_8 e3_8,.bool b3_9,.sl c3_10 e3_10]] []).bind fun r => eV r.fst fun cs => aA (cs.length == 11) (atK cs 0 fun l => dQ .i64 l fun n_2 => atK cs 1 fun l => dV l fun b => atK cs 2 fun l => cO l fun s => atK cs 3 fun l => cO l fun s_1 => atK cs 4 fun l => slK l fun c_3 es_3 => atK cs 5 fun l => slK l fun c_4 es_4 => atK cs 6 fun l => slK l fun c_5 es_5 => atK cs 7 fun l => slK l fun c_6 es_6 => atK cs 8 fun l => slK l fun c_7 es_7 => atK cs 9 fun l => dV l fun b_1 => atK cs 10 fun l => slK l fun c_8 es_8 => (D F.aWi [.agg [.sl c es,.sl c_1 es_1,.sl c_2 es_2],.agg [.int .i64 n_2,.bool b,.str s,.str s_1,.sl c_3 es_3,.sl c_4 es_4,.sl c_5 es_5,.sl c_6 es_6,.sl c_7 es_7,.bool b_1,.sl c_8 es_8]] []).bind fun r => qH T.aXJ r.fst fun es => (D F.aWA [.leaf (.sl aM es),.leaf (.sl c6 e6)] []).bind fun r => aP r.fst fun l => dV l fun b => aB (!b) (some (.leaf (.bool false),[])) (aA ([d].all fun x => x.all SV.flat) ((D F.aWl [.bsl 0 3 0 n9,.leaf (.int .i64 1)] [d]).bind fun r => rE r.snd fun d r_3 => mO r_3 (aP r.fst fun l => dQ .i64 l fun n_3 => aB (decide (n_3 < 0)) (some (.leaf (.bool false),[])) (aB (n_3 != n) (some (.leaf (.bool false),[])) (some (.leaf (.bool true),[])))))))))))))) := by revert J; refine id ?_; intro J; kernel_rfl
end Go.Vs
end
section
set_option linter.unusedVariables false
namespace Go.Vs
def key (e : El) : List UInt8 := (bY e 0).toList
theorem leT {a b c : List UInt8} (h : a ≤ b) (k : b ≤ c) : a ≤ c := List.le_trans h k
theorem leR (a : List UInt8) : a ≤ a := List.le_refl a
theorem leN {a b : List UInt8} (h : ¬ a ≤ b) : b ≤ a := (List.le_total a b).resolve_left h
theorem leA {a b : List UInt8} (h : a ≤ b) (k : b ≤ a) : a = b := List.le_antisymm h k
theorem ltI {a b : List UInt8} : ¬ a < b ↔ b ≤ a := List.not_lt
def aFW (l : List El) : Prop := l.Pairwise fun a b => key a ≤ key b
def aGy (out : List El) (x : El) : List El := if (out.getLast?.map key) = some (key x) then out else out ++ [x]
theorem aJn {out : List El} {x : El} {s : List UInt8} : (∃ e ∈ aGy out x, key e = s) ↔ (∃ e ∈ out, key e = s) ∨ key x = s := by
  unfold aGy
  split
  · rename_i h
    rw [Option.map_eq_some_iff] at h
    obtain ⟨l, hl, hk⟩ := h
    constructor
    · exact .inl
    · rintro (h | h)
      · exact h
      · exact ⟨l, List.mem_of_getLast? hl, hk.trans h⟩
  · constructor
    · rintro ⟨e, he, hs⟩
      rcases List.mem_append.1 he with he | he
      · exact .inl ⟨e, he, hs⟩
      · rw [List.mem_singleton.1 he] at hs; exact .inr hs
    · rintro (⟨e, he, hs⟩ | h)
      · exact ⟨e, List.mem_append_left _ he, hs⟩
      · exact ⟨x, by simp, h⟩
theorem sW {out : List El} {x e : El} (h : e ∈ aGy out x) : e ∈ out ∨ e = x := by
  unfold aGy at h
  split at h
  · exact .inl h
  · rcases List.mem_append.1 h with h | h
    · exact .inl h
    · exact .inr (List.mem_singleton.1 h)
theorem aJC (out : List El) (x : El) : (aGy out x).length ≤ out.length + 1 := by unfold aGy; split <;> simp
theorem aBr {out : List El} {x : El} (h : aFW out) (hx : ∀ o ∈ out, key o ≤ key x) : aFW (aGy out x) := by
  unfold aGy
  split
  · exact h
  · exact List.pairwise_append.2 ⟨h, by simp, fun a ha b hb => by rw [List.mem_singleton.1 hb]; exact hx a ha⟩
def fin (xs ys out : List El) : List El := match xs, ys with
  | [], [] => out
  | x :: xs, [] => fin xs [] (aGy out x)
  | [], y :: ys => fin [] ys (aGy out y)
  | x :: xs, y :: ys => if key x ≤ key y then fin xs (y :: ys) (aGy out x) else fin (x :: xs) ys (aGy out y)
termination_by xs.length + ys.length
structure aVe (xs ys out r : List El) : Prop where
  up : aFW r
  mem : ∀ s, (∃ e ∈ r, key e = s) ↔ (∃ e ∈ out, key e = s) ∨ (∃ e ∈ xs, key e = s) ∨ ∃ e ∈ ys, key e = s
  len : r.length ≤ out.length + xs.length + ys.length
  sub : ∀ e ∈ r, e ∈ out ∨ e ∈ xs ∨ e ∈ ys
theorem aU4 : ∀ (n : Nat) (xs ys out : List El), xs.length + ys.length = n → aFW xs → aFW ys → aFW out → (∀ o ∈ out, ∀ x ∈ xs, key o ≤ key x) → (∀ o ∈ out, ∀ y ∈ ys, key o ≤ key y) → aVe xs ys out (fin xs ys out) := by
  intro n
  induction n using Nat.strongRecOn with
  | ind n ih =>
    intro xs ys out hn hx hy ho h1 h2
    match xs, ys with
    | [], [] => unfold fin; exact ⟨ho, fun s => by simp, by simp, fun e he => .inl he⟩
    | x :: xs, [] =>
      unfold fin
      have hx' := List.pairwise_cons.1 hx
      have j := ih (xs.length + 0) (by simp at hn; omega) xs [] (aGy out x) rfl hx'.2 hy (aBr ho fun o h => h1 o h x (by simp)) (fun o h z hz => by
        rcases sW h with h | rfl
        · exact h1 o h z (by simp [hz])
        · exact hx'.1 z hz) (fun o h z hz => by simp at hz)
      refine ⟨j.up, fun s => ?_, by have := j.len; have := aJC out x; simp at *; omega, fun e he => ?_⟩
      · rw [j.mem, aJn]; simp [or_assoc]
      · rcases j.sub e he with h | h | h
        · rcases sW h with h | rfl
          · exact .inl h
          · exact .inr (.inl (by simp))
        · exact .inr (.inl (by simp [h]))
        · simp at h
    | [], y :: ys =>
      unfold fin
      have hy' := List.pairwise_cons.1 hy
      have j := ih (0 + ys.length) (by simp at hn; omega) [] ys (aGy out y) rfl hx hy'.2 (aBr ho fun o h => h2 o h y (by simp)) (fun o h z hz => by simp at hz) (fun o h z hz => by
        rcases sW h with h | rfl
        · exact h2 o h z (by simp [hz])
        · exact hy'.1 z hz)
      refine ⟨j.up, fun s => ?_, by have := j.len; have := aJC out y; simp at *; omega, fun e he => ?_⟩
      · rw [j.mem, aJn]; simp [or_assoc]
      · rcases j.sub e he with h | h | h
        · rcases sW h with h | rfl
          · exact .inl h
          · exact .inr (.inr (by simp))
        · simp at h
        · exact .inr (.inr (by simp [h]))
    | x :: xs, y :: ys =>
      have hx' := List.pairwise_cons.1 hx
      have hy' := List.pairwise_cons.1 hy
      unfold fin
      by_cases hc : key x ≤ key y
      · rw [if_pos hc]
        have j := ih (xs.length + (y :: ys).length) (by simp at hn ⊢; omega) xs (y :: ys) (aGy out x) rfl hx'.2 hy (aBr ho fun o h => h1 o h x (by simp)) (fun o h z hz => by
          rcases sW h with h | rfl
          · exact h1 o h z (by simp [hz])
          · exact hx'.1 z hz) (fun o h z hz => by
          rcases sW h with h | rfl
          · exact h2 o h z hz
          · rcases List.mem_cons.1 hz with rfl | hz
            · exact hc
            · exact leT hc (hy'.1 z hz))
        refine ⟨j.up, fun s => ?_, by have := j.len; have := aJC out x; simp at *; omega, fun e he => ?_⟩
        · rw [j.mem, aJn]; simp [or_assoc]
        · rcases j.sub e he with h | h | h
          · rcases sW h with h | rfl
            · exact .inl h
            · exact .inr (.inl (by simp))
          · exact .inr (.inl (by simp [h]))
          · exact .inr (.inr h)
      · rw [if_neg hc]
        have hc' := leN hc
        have j := ih ((x :: xs).length + ys.length) (by simp at hn ⊢; omega) (x :: xs) ys (aGy out y) rfl hx hy'.2 (aBr ho fun o h => h2 o h y (by simp)) (fun o h z hz => by
          rcases sW h with h | rfl
          · exact h1 o h z hz
          · rcases List.mem_cons.1 hz with rfl | hz
            · exact hc'
            · exact leT hc' (hx'.1 z hz)) (fun o h z hz => by
          rcases sW h with h | rfl
          · exact h2 o h z (by simp [hz])
          · exact hy'.1 z hz)
        refine ⟨j.up, fun s => ?_, by have := j.len; have := aJC out y; simp at *; omega, fun e he => ?_⟩
        · rw [j.mem, aJn]
          simp only [List.mem_cons, exists_eq_or_imp]
          constructor
          · rintro ((h | h) | h | h) <;> simp [h]
          · rintro (h | (h | h) | h | h) <;> simp [h]
        · rcases j.sub e he with h | h | h
          · rcases sW h with h | rfl
            · exact .inl h
            · exact .inr (.inr (by simp))
          · exact .inr (.inl h)
          · exact .inr (.inr (by simp [h]))
theorem aVG {l : List El} (hr : aFW l) {s : List UInt8} {lo : Nat} (hlo : ∀ (j : Nat) (h : j < l.length), j < lo → key l[j] < s) (hhi : ∀ (j : Nat) (h : j < l.length), lo ≤ j → s ≤ key l[j]) :
    (∃ e ∈ l, key e = s) ↔ ∃ h : lo < l.length, key l[lo] = s := by
  constructor
  · rintro ⟨e, he, hs⟩
    obtain ⟨j, hj, rfl⟩ := List.getElem_of_mem he
    have hjl : lo ≤ j := by
      rcases Nat.lt_or_ge j lo with h | h
      · have := hlo j hj h
        rw [hs] at this
        exact absurd this (ltI.2 (leR s))
      · exact h
    have hlt : lo < l.length := Nat.lt_of_le_of_lt hjl hj
    refine ⟨hlt, leA ?_ (hhi lo hlt (Nat.le_refl _))⟩
    rw [← hs]
    rcases Nat.eq_or_lt_of_le hjl with h | h
    · subst h; exact leR _
    · exact (List.pairwise_iff_getElem.1 hr) lo j hlt hj h
  · rintro ⟨h, hs⟩; exact ⟨l[lo], List.getElem_mem h, hs⟩
theorem aU6 {l : List El} (hr : aFW l) {i j : Nat} (h : i ≤ j) (hj : j < l.length) : key l[i] ≤ key l[j] := by
  rcases Nat.eq_or_lt_of_le h with h | h
  · subst h; exact leR _
  · exact (List.pairwise_iff_getElem.1 hr) i j (by omega) hj h
end Go.Vs
end
section
set_option linter.unusedVariables false
namespace Go.Vs
abbrev nul : ByteArray := ByteArray.mk #[]
abbrev dot : ByteArray := ByteArray.mk #[46]
def aSd : aE false → Bool | .sl _ _ => false | .nl _ => false | _ => true
theorem aTs {φ ψ : Fl false → Fl true} {l : aE false} (h : aSd l = true) : reF φ l = reF ψ l := by cases l <;> first | rfl | simp [aSd] at h
theorem aTz {φ ψ : Fl false → Fl true} {l : List El} (h : ∀ e ∈ l, e.all aSd = true) : reE φ l = reE ψ l := by
  rw [xF, xF]
  refine List.map_congr_left fun e he => ?_
  rw [yW, yW]
  exact List.map_congr_left fun x hx => aTs (List.all_eq_true.1 (h e he) x hx)
def iQ (p : El → Bool) : Int → List El → Int
  | _, [] => -1
  | i, e :: es => if p e = true then i else iQ p (i + 1) es
theorem aL0 (p : El → Bool) : ∀ (es : List El) (i : Int), 0 ≤ i → iQ p i es = -1 ∨ (i ≤ iQ p i es ∧ iQ p i es < i + es.length)
  | [], i, h => .inl rfl
  | e :: es, i, h => by
    unfold iQ
    split
    · right; simp; omega
    · rcases aL0 p es (i + 1) (by omega) with h1 | h1
      · exact .inl h1
      · right; simp only [List.length_cons]; push_cast; omega
theorem aRi (p : El → Bool) : ∀ (es : List El) (i j : Nat), iQ p (i : Int) es = (j : Int) → ∃ h : j - i < es.length, i ≤ j ∧ p es[j - i] = true
  | [], i, j, h => by simp [iQ] at h
  | e :: es, i, j, h => by
    unfold iQ at h
    split at h
    · rename_i hp
      have : i = j := by omega
      subst this
      refine ⟨by simp, Nat.le_refl _, ?_⟩
      simp only [Nat.sub_self, List.getElem_cons_zero]; exact hp
    · obtain ⟨h1, h2, h3⟩ := aRi p es (i + 1) j (by push_cast; exact h)
      have hj : j - i = (j - (i + 1)) + 1 := by omega
      refine ⟨by simp; omega, by omega, ?_⟩
      simp only [hj, List.getElem_cons_succ]
      exact h3
theorem xE {p : El → Bool} {es : List El} (h : ¬ iQ p 0 es < 0) : ∃ (j : Nat) (hj : j < es.length), iQ p 0 es = (j : Int) ∧ p es[j] = true := by
  rcases aL0 p es 0 (by omega) with h1 | ⟨h1, h2⟩
  · omega
  · obtain ⟨j, hj⟩ : ∃ j : Nat, iQ p 0 es = (j : Int) := ⟨(iQ p 0 es).toNat, by omega⟩
    obtain ⟨a, _, b⟩ := aRi p es 0 j hj
    exact ⟨j, by simpa using a, hj, by simpa using b⟩
theorem pZ (p : El → Bool) : ∀ (es : List El) (i : Int), 0 ≤ i → decide (iQ p i es ≥ 0) = es.any p
  | [], i, h => by simp [iQ]
  | e :: es, i, h => by
    unfold iQ
    cases hp : p e with
    | true => simp [hp]; omega
    | false => simpa [hp] using pZ p es (i + 1) (by omega)
theorem aVv (p : El → Bool) (es : List El) : decide (iQ p 0 es < 0) = !es.any p := by
  have := pZ p es 0 (by omega)
  rw [← this]
  by_cases h : iQ p 0 es < 0
  · simp [h]
  · simp [h]; omega
theorem aQA {p q : El → Bool} : ∀ {es : List El} {i : Int}, (∀ e ∈ es, p e = q e) → iQ p i es = iQ q i es
  | [], i, h => rfl
  | e :: es, i, h => by
    unfold iQ
    rw [h e (by simp), aQA (fun e he => h e (by simp [he]))]
abbrev at0 (s : ByteArray) (e : El) : Bool := (bY e 0).toList == s.toList
abbrev at3 (s : ByteArray) (e : El) : Bool := (bY e 3).toList == s.toList
theorem aUe (a b : List UInt8) : (a == b) = (b == a) := by rw [Bool.eq_iff_iff, beq_iff_eq, beq_iff_eq]; exact eq_comm
section
variable {β : Type} {es : List El}
theorem aSs {p : El → Bool} {A : Int → Option β} {yes : Int → Option β} {no : Option β} (hend : A es.length = no)
    (hstep : ∀ (i : Nat) (hi : i < es.length), A i = aB (p es[i]) (yes i) (A ((i + 1 : Nat) : Int))) :
    ∀ i : Nat, i ≤ es.length → A i = if iQ p i (es.drop i) < 0 then no else yes (iQ p i (es.drop i)) := by
  refine cT ?_ ?_
  · rw [hend]; simp [iQ]
  · intro i hi ih
    rw [hstep i hi, kP hi, ih, kR, show iQ p (i : Int) (es[i] :: es.drop (i + 1)) = if p es[i] = true then (i : Int) else iQ p (i + 1) (es.drop (i + 1)) from rfl]
    by_cases hp : p es[i] = true
    · rw [if_pos hp, if_pos hp, if_neg (by omega)]
    · rw [if_neg hp, if_neg hp]; push_cast; rfl
theorem aH5 {p : El → Bool} {A : Int → Option β} {yes : Int → Option β} {no : Option β} (hend : A es.length = no)
    (hstep : ∀ (i : Nat) (hi : i < es.length), A i = aB (p es[i]) (yes i) (A ((i + 1 : Nat) : Int))) :
    A 0 = if iQ p 0 es < 0 then no else yes (iQ p 0 es) := by
  have := aSs hend hstep 0 (Nat.zero_le _)
  simpa using this
theorem oZ {p : El → Bool} {A : Int → Ret false} {bs : List (List (SV false))} (hend : A es.length = some (aJ (-1), bs))
    (hstep : ∀ (i : Nat) (hi : i < es.length), A i = aB (p es[i]) (some (aJ i, bs)) (A ((i + 1 : Nat) : Int))) : A 0 = some (aJ (iQ p 0 es), bs) := by
  rw [aH5 (yes := fun i => some (aJ i, bs)) hend hstep]
  split
  · rename_i h
    rcases aL0 p es 0 (by omega) with h1 | h1
    · rw [h1]
    · omega
  · rfl
theorem aSL {p : El → Bool} {A : Int → Ret false} {bs : List (List (SV false))} (hend : A es.length = some (aI false, bs))
    (hstep : ∀ (i : Nat) (hi : i < es.length), A i = aB (p es[i]) (some (aI true, bs)) (A ((i + 1 : Nat) : Int))) : A 0 = some (aI (es.any p), bs) := by
  rw [show A 0 = _ from (by
    have h := aH5 (yes := fun _ => some (aI true, bs)) hend hstep
    exact h), ← pZ p es 0 (by omega)]
  by_cases hc : iQ p 0 es < 0
  · rw [if_pos hc]; simp; omega
  · rw [if_neg hc]; simp; omega
theorem aIn {p : El → Bool} {A : Int → Option β} {yes no : Option β} (hend : A es.length = no)
    (hstep : ∀ (i : Nat) (hi : i < es.length), A i = aB (p es[i]) yes (A ((i + 1 : Nat) : Int))) :
    A 0 = if es.any p = true then yes else no := by
  have h := aH5 (yes := fun _ => yes) hend hstep
  rw [h, ← pZ p es 0 (by omega)]
  by_cases hc : iQ p 0 es < 0
  · rw [if_pos hc, if_neg (by simp; omega)]
  · rw [if_neg hc, if_pos (by simp; omega)]
def gS (g : Nat → El → List El) : Nat → List El → List El
  | _, [] => []
  | i, e :: r => g i e ++ gS g (i + 1) r
theorem aK9 (g : El → List El) : ∀ (l : List El) (i : Nat), gS (fun _ => g) i l = l.flatMap g
  | [], _ => rfl
  | e :: r, i => by rw [gS, aK9 g r, List.flatMap_cons]
theorem aP4 {g h : Nat → El → List El} : ∀ {l : List El} {i : Nat}, (∀ (j : Nat) (hj : j < l.length), g (i + j) l[j] = h (i + j) l[j]) → gS g i l = gS h i l
  | [], _, _ => rfl
  | e :: r, i, hh => by
    rw [gS, gS, aP4 (l := r) (i := i + 1) (fun j hj => by have := hh (j + 1) (by simpa using hj); simpa [Nat.add_assoc, Nat.add_comm 1 j] using this)]
    have := hh 0 (by simp)
    simp at this
    rw [this]
theorem mU {g : Nat → El → List El} {c : Nat} : ∀ (l : List El) (i : Nat), (∀ (j : Nat) (hj : j < l.length), (g (i + j) l[j]).length ≤ c) → (gS g i l).length ≤ l.length * c
  | [], _, _ => by simp [gS]
  | e :: r, i, h => by
    have h0 := h 0 (by simp)
    have h1 := mU (g := g) (c := c) r (i + 1) (fun j hj => by have := h (j + 1) (by simpa using hj); simpa [Nat.add_assoc, Nat.add_comm 1 j] using this)
    simp at h0
    rw [gS, List.length_append, List.length_cons, Nat.add_mul]; omega
theorem aNY {g : Nat → El → List El} {x : El} : ∀ (l : List El) (i : Nat), x ∈ gS g i l → ∃ (j : Nat) (hj : j < l.length), x ∈ g (i + j) l[j]
  | [], _, h => by simp [gS] at h
  | e :: r, i, h => by
    rw [gS] at h
    rcases List.mem_append.1 h with h | h
    · exact ⟨0, by simp, by simpa using h⟩
    · obtain ⟨j, hj, hx⟩ := aNY r (i + 1) h
      exact ⟨j + 1, by simpa using hj, by simpa [Nat.add_assoc, Nat.add_comm 1 j] using hx⟩
theorem aTJ {g : Nat → El → List El} {A : List El → Int → Option β} {fin : List El → Option β} {c N : Nat} (hg : ∀ (j : Nat) (hj : j < es.length), (g j es[j]).length ≤ c)
    (hend : ∀ out, out.length ≤ N → A out es.length = fin out)
    (hstep : ∀ (i : Nat) (hi : i < es.length) (out : List El), out.length + c ≤ N → A out i = A (out ++ g i es[i]) ((i + 1 : Nat) : Int)) :
    ∀ i : Nat, i ≤ es.length → ∀ out : List El, out.length + (es.length - i) * c ≤ N → A out i = fin (out ++ gS g i (es.drop i)) := by
  refine cT ?_ ?_
  · intro out ho; rw [hend out (by simpa using ho)]; simp [gS]
  · intro i hi ih out ho
    have e1 : (es.length - i) * c = (es.length - (i + 1)) * c + c := by rw [show es.length - i = (es.length - (i + 1)) + 1 by omega, Nat.add_mul, Nat.one_mul]
    rw [hstep i hi out (by omega), ih _ (by have := hg i hi; rw [List.length_append]; omega), kP hi, gS, List.append_assoc]
theorem jU {g : Nat → El → List El} {A : List El → Int → Option β} {fin : List El → Option β} {c N : Nat} (hg : ∀ (j : Nat) (hj : j < es.length), (g j es[j]).length ≤ c)
    (hend : ∀ out, out.length ≤ N → A out es.length = fin out)
    (hstep : ∀ (i : Nat) (hi : i < es.length) (out : List El), out.length + c ≤ N → A out i = A (out ++ g i es[i]) ((i + 1 : Nat) : Int))
    {out : List El} (ho : out.length + es.length * c ≤ N) : A out 0 = fin (out ++ gS g 0 es) := by
  have := aTJ hg hend hstep 0 (Nat.zero_le _) out (by simpa using ho)
  simpa using this
theorem aAJ {g : Nat → El → List El} {A : List El → Int → Option β} {fin : List El → Option β} {c N : Nat} (hg : ∀ (j : Nat) (hj : j < es.length), (g j es[j]).length ≤ c)
    (hend : ∀ out, out.length ≤ N → A out es.length = fin out)
    (hstep : ∀ (i : Nat) (hi : i < es.length) (out : List El), out.length + c ≤ N → A out i = A (out ++ g i es[i]) ((i + 1 : Nat) : Int))
    (ho : es.length * c ≤ N) : A [] 0 = fin (gS g 0 es) :=
  jU hg hend hstep (out := []) (by simpa using ho)
end
def ifP (q : Bool) (x : El) : List El := if q = true then [x] else []
theorem cM (q : Bool) (x : El) : (ifP q x).length ≤ 1 := by unfold ifP; split <;> simp
theorem aRA {q : Bool} {x y : El} (h : y ∈ ifP q x) : q = true ∧ y = x := by unfold ifP at h; split at h <;> simp_all
@[simp] theorem eP (x : El) : ifP true x = [x] := rfl
@[simp] theorem eH (x : El) : ifP false x = [] := rfl
theorem aRa {n k z : Nat} (h : n + k ≤ 1000000000000) (hz : z ≤ 100) : decide ((n + k) * z ≤ aO) = true := by
  have hb : aO = 140737488355328 := rfl
  rw [decide_eq_true_eq]
  calc (n + k) * z ≤ 1000000000000 * 100 := Nat.mul_le_mul h hz
    _ ≤ aO := by rw [hb]; decide
end Go.Vs
end
section
set_option linter.unusedVariables false
namespace Go.Vs
def qX (b : UInt8) : Bool := decide (48 ≤ b.toNat) && decide (b.toNat ≤ 57)
def rR : List UInt8 → List UInt8
  | [] => []
  | c :: r => if c.toNat = 45 then r else c :: r
def neg (l : List UInt8) : Bool := match l with | [] => false | c :: _ => decide (c.toNat = 45)
def zY (n : Nat) (c : UInt8) : Nat := n * 10 + (c.toNat - 48)
def rW (a : Nat) (l : List UInt8) : Nat := l.foldl zY a
theorem uT (a : Nat) (c : UInt8) (r : List UInt8) : rW a (c :: r) = rW (zY a c) r := by
  unfold rW
  rw [List.foldl_cons]
theorem aJt (a : Nat) : rW a [] = a := rfl
def aEw (l : List UInt8) : Bool := decide (l.length ≤ 40) && (decide (rR l ≠ []) && ((rR l).all qX && (decide ((rR l).length = 1) || decide ((rR l).head?.map (·.toNat) ≠ some 48))))
theorem aT8 (l : List UInt8) : ∀ a : Nat, a ≤ rW a l := by
  induction l with
  | nil => intro a; exact Nat.le_refl _
  | cons c r ih =>
    intro a
    rw [uT]
    have h : a ≤ zY a c := by unfold zY; omega
    exact Nat.le_trans h (ih _)
theorem aRR (l : List UInt8) : ∀ a b : Nat, a ≤ b → rW a l ≤ rW b l := by
  induction l with
  | nil => intro a b h; exact h
  | cons c r ih =>
    intro a b h
    rw [uT, uT]
    have h : zY a c ≤ zY b c := by unfold zY; omega
    exact ih _ _ h
theorem aTy (l : List UInt8) : ∀ a : Nat, a * 10 ^ l.length ≤ rW a l := by
  induction l with
  | nil => intro a; simp [aJt]
  | cons c r ih =>
    intro a
    rw [List.length_cons, Nat.pow_succ, uT]
    have h1 := ih (a * 10)
    have h : a * 10 ≤ zY a c := by unfold zY; omega
    have h2 := aRR r _ _ h
    have h3 : a * (10 ^ r.length * 10) = a * 10 * 10 ^ r.length := by rw [Nat.mul_comm (10 ^ r.length) 10, Nat.mul_assoc]
    rw [h3]
    exact Nat.le_trans h1 h2
theorem aVz (l : List UInt8) : ∀ a : Nat, l.all qX = true → rW a l < (a + 1) * 10 ^ l.length := by
  induction l with
  | nil => intro a _; simp [aJt]
  | cons c r ih =>
    intro a h
    rw [List.all_cons, Bool.and_eq_true] at h
    have hc : 48 ≤ c.toNat ∧ c.toNat ≤ 57 := by simpa [qX] using h.1
    have h1 := ih (zY a c) h.2
    rw [List.length_cons, Nat.pow_succ, uT]
    have h2 : (zY a c + 1) * 10 ^ r.length ≤ (a + 1) * (10 ^ r.length * 10) := by
      rw [Nat.mul_comm (10 ^ r.length) 10, ← Nat.mul_assoc]
      have : zY a c + 1 ≤ (a + 1) * 10 := by unfold zY; omega
      exact Nat.mul_le_mul_right _ this
    exact Nat.lt_of_lt_of_le h1 h2
theorem aTp (l : List UInt8) : ∀ a : Nat, l.all qX = true → a ≤ 4294967295 → Lib.parseUintM 4294967295 a l = if rW a l ≤ 4294967295 then .ok (rW a l) else .range := by
  induction l with
  | nil => intro a _ h; rw [aJt, if_pos h, Lib.parseUintM]
  | cons c r ih =>
    intro a hl h
    rw [List.all_cons, Bool.and_eq_true] at hl
    have hc : 48 ≤ c.toNat ∧ c.toNat ≤ 57 := by simpa [qX] using hl.1
    rw [Lib.parseUintM, if_pos hc, if_neg (by omega), uT, show a * 10 + (c.toNat - 48) = zY a c from rfl]
    by_cases hb : 4294967295 < zY a c
    · rw [if_pos hb, if_neg]
      have := aT8 r (zY a c)
      omega
    · rw [if_neg hb, ih _ hl.2 (by omega)]
def aQt (l : List UInt8) : Bool := if neg l = true then decide (rW 0 (rR l) ≤ 2147483648) else decide (rW 0 (rR l) ≤ 2147483647)
def okB (l : List UInt8) : Bool := match Lib.parseIntB 32 l with | .ok _ => true | _ => false
theorem aUo {l : List UInt8} (h : aEw l = true) : okB l = aQt l := by
  unfold okB
  unfold aEw at h
  simp only [Bool.and_eq_true, decide_eq_true_eq] at h
  obtain ⟨_, hne, hall, _⟩ := h
  cases l with
  | nil => simp [rR] at hne
  | cons c r =>
    by_cases hc : c.toNat = 45
    · have hd : rR (c :: r) = r := by simp [rR, hc]
      rw [hd] at hne hall
      have hb : Lib.parseUintB 32 r = if rW 0 r ≤ 4294967295 then .ok (rW 0 r) else .range := by
        unfold Lib.parseUintB; rw [if_neg hne]; exact aTp r 0 hall (by omega)
      unfold Lib.parseIntB aQt neg
      simp only [hc, or_true, if_true, hb, hd, decide_true]
      by_cases hv : rW 0 r ≤ 4294967295
      · rw [if_pos hv]
        by_cases h2 : rW 0 r ≤ 2147483648
        · have : ¬ (2147483648 < rW 0 r) := by omega
          simp [h2, this]
        · have : 2147483648 < rW 0 r := by omega
          simp [h2, this]
      · rw [if_neg hv]
        have : ¬ rW 0 r ≤ 2147483648 := by omega
        simp [this]
    · have hd : rR (c :: r) = c :: r := by simp [rR, hc]
      rw [hd] at hne hall
      have h43 : ¬ (c.toNat = 43 ∨ c.toNat = 45) := by
        simp only [List.all_cons, Bool.and_eq_true, qX, decide_eq_true_eq] at hall
        omega
      have hb : Lib.parseUintB 32 (c :: r) = if rW 0 (c :: r) ≤ 4294967295 then .ok (rW 0 (c :: r)) else .range := by
        unfold Lib.parseUintB; rw [if_neg hne]; exact aTp (c :: r) 0 hall (by omega)
      unfold Lib.parseIntB aQt neg
      simp only [if_neg h43, hb, hd]
      simp only [hc, decide_false, Bool.false_eq_true, if_false]
      by_cases hv : rW 0 (c :: r) ≤ 4294967295
      · rw [if_pos hv]
        by_cases h2 : rW 0 (c :: r) ≤ 2147483647
        · have : ¬ (2147483648 ≤ rW 0 (c :: r)) := by omega
          simp [h2, this]
        · have : 2147483648 ≤ rW 0 (c :: r) := by omega
          simp [h2, this]
      · rw [if_neg hv]
        have : ¬ rW 0 (c :: r) ≤ 2147483647 := by omega
        simp [this]
theorem aTK {l : List UInt8} (h : aEw l = true) (hl : 11 < l.length) : aQt l = false := by
  unfold aEw at h
  simp only [Bool.and_eq_true, Bool.or_eq_true, decide_eq_true_eq] at h
  obtain ⟨_, hne, hall, hz⟩ := h
  have hlen : 11 ≤ (rR l).length := by
    cases l with
    | nil => simp at hl
    | cons c r =>
      rw [List.length_cons] at hl
      simp only [rR]
      split
      · omega
      · rw [List.length_cons]; omega
  cases hd : rR l with
  | nil => exact absurd hd hne
  | cons c r =>
    rw [hd] at hall hz hlen
    simp only [List.all_cons, Bool.and_eq_true, qX, decide_eq_true_eq] at hall
    have hc : 49 ≤ c.toNat := by
      rcases hz with hz | hz
      · omega
      · simp at hz; omega
    rw [List.length_cons] at hlen
    have h1 := aTy r (zY 0 c)
    have h2 : 10 ^ 10 ≤ 10 ^ r.length := Nat.pow_le_pow_right (by omega) (by omega)
    have h0 : 1 ≤ zY 0 c := by unfold zY; omega
    have h3 : 1 * 10 ^ r.length ≤ zY 0 c * 10 ^ r.length := Nat.mul_le_mul_right _ h0
    have h4 : 10000000000 ≤ rW 0 (c :: r) := by
      rw [uT]
      have : (10 : Nat) ^ 10 = 10000000000 := by decide
      omega
    unfold aQt
    rw [hd]
    split <;> simp <;> omega
theorem aSO {β : Type} {l : List UInt8} {p : UInt8 → Bool} {A : Int → Option β} {yes no : Option β} (hend : A l.length = yes)
    (hstep : ∀ (i : Nat) (hi : i < l.length), A i = aB (!p l[i]) no (A ((i + 1 : Nat) : Int))) : A 0 = if l.all p = true then yes else no := by
  have key : ∀ i : Nat, i ≤ l.length → A i = if (l.drop i).all p = true then yes else no := by
    refine cT ?_ ?_
    · rw [hend]; simp
    · intro i hi ih
      rw [hstep i hi, List.drop_eq_getElem_cons hi, List.all_cons, ih]
      cases p l[i] <;> simp
  have := key 0 (Nat.zero_le _)
  simpa using this
theorem aRB (s : ByteArray) : s.toList = s.data.toList := by first | exact ByteArray.toList_eq s | exact Go.ByteArray.toList_eq s
theorem aGZ (s : ByteArray) : s.data.toList.length = s.size := by rw [Array.length_toList]; rfl
def aFi (s : ByteArray) (c : UInt8) : ByteArray := if s.data.toList.head? = some c then s.extract 1 s.size else s
theorem aIC (s : ByteArray) (a b : Nat) : (s.extract a b).data.toList = (s.data.toList.take b).drop a := by
  rw [ByteArray.data_extract, Array.toList_extract, List.extract_eq_take_drop, List.drop_take]
theorem aR7 (s : ByteArray) : (aFi s 45).data.toList = rR s.data.toList := by
  have hn := aGZ s
  unfold aFi
  cases hl : s.data.toList with
  | nil => simp [rR, hl]
  | cons c r =>
    rw [hl] at hn
    by_cases hc : c = 45
    · subst hc
      rw [if_pos (by simp), aIC, hl, List.take_of_length_le (by omega)]
      simp [rR]
    · have : ¬ c.toNat = 45 := fun h => hc (by rw [← UInt8.toNat_inj]; simpa using h)
      rw [if_neg (by simpa using hc), hl]
      simp [rR, this]
def sZ : List UInt8 → Nat
  | [] => 0
  | c :: r => if qX c = true then sZ r + 1 else 0
theorem aSu (c : UInt8) (r : List UInt8) : sZ (c :: r) = if qX c = true then sZ r + 1 else 0 := rfl
theorem aLY : ∀ l : List UInt8, sZ l ≤ l.length
  | [] => Nat.le_refl _
  | c :: r => by unfold sZ; have := aLY r; split <;> simp <;> omega
theorem aPd : ∀ l : List UInt8, decide (sZ l = l.length) = l.all qX
  | [] => rfl
  | c :: r => by
    have ih := aPd r
    have hl := aLY r
    unfold sZ
    rw [List.all_cons, ← ih]
    cases qX c
    · simp
    · simp
theorem aU9 {c : UInt8} {r : List UInt8} : sZ (c :: r) = 0 ↔ qX c = false := by
  unfold sZ
  cases qX c <;> simp
theorem aS7 (l : List UInt8) (k : Nat) (hk : k = if neg l = true then 1 else 0) (h0 : l ≠ []) :
    aEw l = (decide (l.length ≤ 40) && decide ((if sZ (l.drop k) = 0 ∨ ((l.drop k).head?.map (·.toNat) = some 48 ∧ 1 < sZ (l.drop k)) then 0 else k + sZ (l.drop k)) = l.length)) := by
  have hd : l.drop k = rR l := by
    cases l with
    | nil => exact absurd rfl h0
    | cons c r => subst hk; by_cases hc : c.toNat = 45 <;> simp [neg, rR, hc]
  have hl : l.length = k + (rR l).length := by
    cases l with
    | nil => exact absurd rfl h0
    | cons c r => subst hk; by_cases hc : c.toNat = 45 <;> simp [neg, rR, hc] <;> omega
  have hpos : 0 < l.length := List.length_pos_iff.2 h0
  rw [hd]
  unfold aEw
  rw [← aPd]
  cases hx : rR l with
  | nil =>
    rw [hx] at hl
    simp at hl
    have : ¬ (0 = l.length) := by omega
    simp [sZ, this]
  | cons c r =>
    rw [hx] at hl
    have hle := aLY (c :: r)
    simp only [ne_eq, List.cons_ne_nil, not_false_eq_true, decide_true, Bool.true_and, List.head?_cons, Option.map_some, Option.some.injEq]
    congr 1
    by_cases hz : sZ (c :: r) = 0
    · have h1 : ¬ (0 = (c :: r).length) := by simp
      have h2 : ¬ (0 = l.length) := by omega
      simp only [hz, true_or, if_true, h2, decide_false]
      rw [decide_eq_false h1, Bool.false_and]
    · by_cases h48 : c.toNat = 48
      · by_cases h1 : 1 < sZ (c :: r)
        · have h2 : ¬ (0 = l.length) := by omega
          have h3 : ¬ ((c :: r).length = 1) := by omega
          rw [if_pos (.inr ⟨h48, h1⟩), decide_eq_false h2, decide_eq_false h3, show decide (¬ c.toNat = 48) = false by simp [h48]]
          simp
        · have h4 : sZ (c :: r) = 1 := by omega
          rw [if_neg (by omega), h4, hl, Bool.eq_iff_iff]
          simp [h48]
      · rw [if_neg (by omega), hl, Bool.eq_iff_iff]
        simp [h48]
end Go.Vs
end
section
namespace Go.Vs
open Go Go.RowKit
variable {m : Bool} {P : Program} {N : Env} {s : St m} {tmps : Array Value} {w w' : World} {F : Fr} {Ow : Own} {bm : Nat → Nat}
theorem aK4 (h : Inv P s tmps w F N Ow bm) (hb : Below w.heap.size w w') : gQ N w F w' F := by
  refine gQ.mk' (fun g j hj => ?_) (fun g => Nat.le_refl _) (fun g hg => ?_)
  · have hg : g < w.heap.size := Nat.lt_of_not_le fun hn => by have := (h.new g hn).1; omega
    unfold World.cell?
    simp only [hb.block g hg]
  · obtain ⟨cur, e, hc⟩ := hg
    exact ⟨cur, e, by rw [hb.block g (Array.getElem?_eq_some_iff.1 hc).1]; exact hc⟩
theorem aRN (h : Inv P s tmps w F N Ow bm) (hb : Below w.heap.size w w') : Far N w F Ow w' F Ow :=
  ⟨hb.os, hb.tape, hb.output, hb.size, aK4 h hb, fun g hg ho => ⟨fun _ => hb.block g hg, rfl, ho⟩⟩
theorem aSm (h : Inv P s tmps w F N Ow bm) (hb : Below w.heap.size w w') {l : aE m} {v : Value} (hv : eN w' F N l v) :
    Inv P { tmps := [SV.leaf l], boxes := ([] : List (List (SV m))).map some } #[v] w' F N Ow bm := by
  refine ⟨rfl, fun t => ?_, fun b cs hc => by simp [bJ] at hc, h.low.to (aK4 h hb) hb.size, fun g hg => h.new g (Nat.le_trans hb.size hg), fun b cs hc => by simp [bJ] at hc, fun g hz => ?_⟩
  · cases t with
    | zero => exact aZ.leaf hv
    | succ t => simp only [List.getD_cons_succ, List.getD_nil]; exact aZ.any
  · obtain ⟨h1, cur, e, h2⟩ := h.zow g hz
    exact ⟨h1, cur, e, by rw [hb.block g (Nat.lt_of_lt_of_le (N.lt g hz) h.low.le)]; exact h2⟩
theorem aUp {a : ByteArray} {bs : List (Option (List (SV m)))} (h : Inv P { tmps := [.leaf (.str a)], boxes := bs } tmps w F N Ow bm) : tmps = #[.string a] := by
  have hl := h.len
  have hs := h.slot 0
  have hv : tmps.getD 0 undef = .string a := by
    have h1 : eN w F N (aE.str a : aE m) (tmps.getD 0 undef) := by simpa [aZ, eG] using hs
    generalize tmps.getD 0 undef = v at h1
    cases h1; rfl
  have h1 : tmps.size = 1 := hl.symm
  apply Array.ext
  · simpa using h1
  · intro i hi hi2
    have : i = 0 := by omega
    subst this
    simpa [Array.getD, hi] using hv
end Go.Vs
end
