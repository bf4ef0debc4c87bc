/- What the program's functions compute, read off their text by the shadow runner (VsLaw, VsCmb, VsStruct, VsDat, MSt, ML, VsNames, VsLst, VsFig, VsTold); no condition. -/
import Derived.Test.YtndacingbfeonaaGreatDoorRows
import Derived.Laws.Strings
import Derived.Sort.Walk0
import Derived.Lib.ParseIntB
import Derived.Test.YtndacingbfeonaaGreatDoorVB3
section
set_option linter.unusedVariables false
namespace Go.Vs
variable {m : Bool} {P : Program} {f : FuncId} {fn : Func} {c0 : Code}
theorem aV4 (hfn : P.funcs[f]? = some fn) (hc0 : fn.body = some c0) {args : List (SV m)} {W : World} {vals : Array Value} {K : aBc} (hl : args.length = vals.size) (hh : args.all SV.handed = true)
    (hr : ∀ j a v, args[j]? = some a → vals[j]? = some v → bD P W (xB W) (N0 W K) (fun _ => none) (fun _ => W.heap.size) (fun _ => false) (.tmp j) a v)
    (next : ∀ a : Act, mX P fn W (N0 W K) (aBv fn args []) a W (xB W) (fun _ => none) (fun _ => W.heap.size) → (sub c0 (way 0)).wp P (bodyPost P fn (aKF W)) a W) (hK : KOk W K := by exact KOk.nil) : Calls P f vals W (aKF W) := by
  refine calls_of_wp hfn hc0 ?_
  have hinv : Inv P { tmps := args, boxes := ([] : List (List (SV m))).map some } vals W (xB W) (N0 W K) (fun _ => none) (fun _ => W.heap.size) := by
    refine ⟨hl, fun t => ?_, fun b cs hb => ?_, hK.low, fun g hg => ⟨?_, rfl⟩, fun b cs hb => ?_, fun g hg => ?_⟩
    · by_cases ht : t < args.length
      · have := hr t _ _ (List.getElem?_eq_getElem ht) (Array.getElem?_eq_getElem (by omega))
        simp only [List.getD, List.getElem?_eq_getElem ht, Option.getD_some, Array.getD, show t < vals.size by omega, dif_pos]
        exact this.keeps (hM.refl _ _) (fun b hb => by simp at hb) (fun g hg => by simp at hg)
      · simp only [List.getD, List.getElem?_eq_none (Nat.not_lt.1 ht), Option.getD_none]
        exact bD.any
    · simp [bP] at hb
    · unfold xB
      rw [Array.getElem?_eq_none hg]
    · simp [bP] at hb
    · simp [N0] at hg
  have h1 := hinv.frame fn hh (by simp)
  have := next { tmps := vals ++ Array.replicate (fn.ntmps - vals.size) undef, defers := [] } ⟨by simpa using h1, by simp [aBv], rfl, Go.RowKit.Below.refl _ _, fun _ _ => rfl, fun _ _ => rfl⟩
  rw [show way 0 = [] from rfl, aQd] at this
  exact this
def N1 (A : Nat) (K : aBc := []) : Env := { K := K, n := A, Z := fun _ => false, lt := fun g h => by simp at h, T := fun k g => (k == 0 || k == 3) && decide (g < A) }
def N2 (A B : Nat) (F2 : Fr) (K : aBc := []) : Env := { K := K, n := B, Z := fun _ => false, lt := fun g h => by simp at h, T := fun k g => (k == 0 && decide (g < A)) || (k == 1 && decide (A ≤ g ∧ g < B ∧ 0 < F2 g)) || (k == 3 && decide (g < B ∧ ¬ (A ≤ g ∧ 0 < F2 g))) }
open Classical in
noncomputable def N3 (w : World) (A B : Nat) (F2 F3 : Fr) (hB : B ≤ w.heap.size) (K : aBc := []) : Env := { K := K, n := w.heap.size, Z := fun g => decide (A ≤ g ∧ g < B ∧ 0 < F2 g ∧ oV w g), lt := fun g h => by have := of_decide_eq_true h; omega, T := fun k g => (k == 0 && decide (g < A)) || (k == 2 && decide (B ≤ g ∧ 0 < F3 g)) || (k == 3 && decide (g < w.heap.size ∧ ¬ (B ≤ g ∧ 0 < F3 g) ∧ ¬ (A ≤ g ∧ g < B ∧ 0 < F2 g))) }
def N4 (A B : Nat) (R : Nat → Bool) (K : aBc := []) : Env := { K := K, n := B, Z := fun _ => false, lt := fun g h => by simp at h, T := fun k g => (k == 0 && decide (g < A)) || (k == 3 && R g) }
abbrev tA : Fl true := sH.tag 0 false
abbrev tX : Fl true := sH.tag 1 true
abbrev tG : Fl true := sH.tag 2 true
def φ1 : Fl true → Fl true := fun _ => tA
def φ2 : Fl true → Fl true := fun c => match c with | sH.new => tX | _ => tA
def φ3 : Fl true → Fl true := fun c => match c with | sH.new => tG | _ => tA
def σ3 : Fl true → Bool := fun c => match c with | sH.tag 1 _ => true | _ => false
def φ4 : Fl true → Fl true := fun _ => tA
def p4 : Fl true → Bool := fun c => match c with | sH.tag 0 _ => true | _ => false
def p2 : Fl true → Bool := fun c => match c with | sH.new => true | sH.tag 0 _ => true | _ => false
def p3 : Fl true → Bool := fun c => match c with | sH.new => true | sH.tag 0 _ => true | sH.tag 1 f => f | _ => false
theorem aJS (bs : iC true) (ds : List Nat) : ∀ (i : Nat) (l : List (SV true)), oH (fun _ => true) bs ds i l = true
  | _, [] => rfl
  | i, x :: r => by
    rw [oH, aJS bs ds (i + 1) r]
    cases x <;> simp only [vI, aJb, aPp, aLM, aLd, Bool.or_true, Bool.and_true]
    · split <;> simp
section
variable {W w : World} {N : Env} {s : St true} {a : Act} {F : Fr} {Ow : Own} {bm : Nat → Nat}
theorem mX.box_lt (h : mX P fn W N s a w F Ow bm) {b : Nat} {cs : List (SV true)} (hb : bP s.boxes b = some cs) : bm b < w.heap.size ∧ F (bm b) = 0 ∧ N.n ≤ bm b ∧ cs.length ≤ aEU F w (bm b) := by
  obtain ⟨cur, et, h1, h2, h3, _⟩ := h.inv.box b cs hb
  exact ⟨(Array.getElem?_eq_some_iff.1 h1).1, h3, h.inv.bmn b cs hb, h2 ▸ aTb h1⟩
theorem aWD {K : aBc} (h : mX P fn W N s a w F Ow bm) (hN : ∀ g, N.T 3 g = false) (ds : List Nat) (hNK : N.K = K := by rfl) : mX P fn W (N1 w.heap.size K) (Vs.turn φ1 (fun _ => false) ds s) a w (aEU F w) (fun _ => none) (fun _ => w.heap.size) :=
  h.turn φ1 (fun _ => false) ds (fun _ => true) (aJS _ _ _ _) (fun c g o _ hg _ _ => ⟨sU F w g, .inr ⟨rfl, ⟨by simp [N1, hg], fun h => by cases h⟩, rfl, rfl⟩⟩)
    ⟨fun b cs hb => ⟨(h.box_lt hb).2.2.2, by simp [N1, (h.box_lt hb).1], rfl⟩, fun g hg => by rw [hN] at hg; cases hg⟩
    (Nat.le_refl _) (fun g hg => aHc (h.inv.new g hg).1 hg) hNK.symm (sU F w) (fun _ _ => rfl) (fun g hg => by simp [N1] at hg)
theorem aWS {K : aBc} {A : Nat} (h : mX P fn W (N1 A K) s a w F Ow bm) (ds : List Nat) (hsl : oH p2 s.boxes ds 0 s.tmps = true) : mX P fn W (N2 A w.heap.size F K) (Vs.turn φ2 (fun _ => false) ds s) a w (aEU F w) (fun _ => none) (fun _ => w.heap.size) :=
  h.turn φ2 (fun _ => false) ds p2 hsl (fun c g o hc hg hF hH => by
    refine ⟨sU F w g, .inr ⟨rfl, ?_, ?_, rfl⟩⟩
    · cases c with
      | new => obtain ⟨h1, h2, h3⟩ := hH; exact ⟨by simp only [N2]; simp [hg, hF]; exact h1, fun _ => ⟨h2, h3⟩⟩
      | tag k f =>
        rcases k with _ | k
        · exact ⟨by have := hH.1; simp only [N1, N2] at this ⊢; simp at this ⊢; exact this, fun h => by cases h⟩
        · cases (show false = true from hc)
      | _ => cases (show false = true from hc)
    · cases c <;> rfl)
    ⟨fun b cs hb => ⟨(h.box_lt hb).2.2.2, by simp [N2, h.box_lt hb], rfl⟩, fun g hg => by
      have h0 : A ≤ w.heap.size := h.inv.low.le
      simp [N1] at hg
      exact ⟨sU F w g, by simp only [N2]; simp; omega, rfl⟩⟩
    (Nat.le_refl _) (fun g hg => aHc (h.inv.new g hg).1 hg) rfl (sU F w) (fun _ _ => rfl) (fun g hg => by simp [N2] at hg)
open Classical in
theorem aWF {K : aBc} {A B : Nat} {F2 : Fr} (h : mX P fn W (N2 A B F2 K) s a w F Ow bm) (hA : W.heap.size ≤ A) (hB : B ≤ w.heap.size) (hAB : A ≤ B) (ds : List Nat) (hsl : oH p3 s.boxes ds 0 s.tmps = true) (hK : ∀ k ∈ K, k.1.1 < W.heap.size := by intro _ h; cases h) : mX P fn W (N3 w A B F2 F hB K) (Vs.turn φ3 σ3 ds s) a w (aEU F w) (fun _ => none) (fun _ => w.heap.size) :=
  h.turn φ3 σ3 ds p3 hsl (fun c g o hc hg hF hH => by
    refine ⟨sU F w g, ?_⟩
    cases c with
    | new =>
      obtain ⟨h1, h2, h3⟩ := hH
      have h1' : B ≤ g := h1
      exact .inr ⟨rfl, ⟨by simp only [N3]; simp [h1', hF], fun _ => ⟨h2, h3⟩⟩, rfl, by simp only [N3]; exact decide_eq_false (fun h => by omega)⟩
    | tag k f =>
      rcases k with _ | _ | k
      · have h0 := hH.1
        simp only [N2] at h0
        simp at h0
        exact .inr ⟨rfl, ⟨by simp only [N3]; simp [h0], fun h => by cases h⟩, rfl, by simp only [N3]; exact decide_eq_false (fun h => by omega)⟩
      · have h0 := hH.1
        simp only [N2] at h0
        simp at h0
        cases f with
        | true => exact .inl ⟨rfl, by simp only [N3]; exact decide_eq_true ⟨h0.1, h0.2.1, h0.2.2, (hH.2 rfl).2⟩⟩
        | false => cases (show false = true from hc)
      · cases (show false = true from hc)
    | _ => cases (show false = true from hc))
    ⟨fun b cs hb => by
      obtain ⟨b1, b2, b3, b4⟩ := h.box_lt hb
      have b3' : B ≤ bm b := b3
      exact ⟨b4, by simp only [N3]; simp; omega, by simp only [N3]; exact decide_eq_false (fun h => by omega)⟩, fun g hg => by
      simp [N2] at hg
      exact ⟨sU F w g, by simp only [N3]; simp; omega, by simp only [N3]; exact decide_eq_false (fun h => by omega)⟩⟩
    (Nat.le_refl _) (fun g hg => aHc (h.inv.new g hg).1 hg) rfl (sU F w) (fun k hk => by have := hK k hk; simp only [N3]; exact decide_eq_false (fun h => by omega)) (fun g hg => by
      simp only [N3] at hg
      have := of_decide_eq_true hg
      exact ⟨by omega, this.2.2.2⟩)
open Classical in
theorem aWx {K : aBc} {A B : Nat} {w0 : World} {F2 F3 : Fr} {hB0 : B ≤ w0.heap.size} (h : mX P fn W (N3 w0 A B F2 F3 hB0 K) s a w F Ow bm) (hA : W.heap.size ≤ A) (hB : B ≤ w.heap.size) (hAB : A ≤ B) (ds : List Nat) {t : Nat} (ht : t < s.tmps.length) (ht2 : t < fn.ntmps) {es : List (List (aF true))} {z : Nat}
    (hslot : s.tmps.getD t .any = .leaf (.sl tG es)) (hpos : 0 < es.length) (hez : ∀ e ∈ es, e.length = z) (hsl : oH p4 s.boxes ds 0 s.tmps = true) (hK : ∀ k ∈ K, k.1.1 < W.heap.size := by intro _ h; cases h) :
    ∃ k F' Ow' bm' R, es.length * z ≤ k ∧ mX P fn W (N4 A B R K) (aRa (Vs.turn φ4 (fun _ => false) ds s) t z es.length k) a w F' Ow' bm' := by
  obtain ⟨k, F', Ow', bm', h1, h2⟩ := h.row (N' := N4 A B (fun g => (N3 w0 A B F2 F3 hB0 K).T 3 g || decide (w0.heap.size ≤ g)) K) φ4 ds p4 ht ht2 hslot hpos hez hsl (fun g o hg hH => by
    have h0 := hH.1
    simp only [N3] at h0
    simp at h0
    refine ⟨(hH.2 rfl).1, (hH.2 rfl).2, h0.1, by omega, fun c' o' hc' hH' => ?_⟩
    cases c' with
    | tag k f =>
      rcases k with _ | k
      · have h1 := hH'.1
        simp only [N3] at h1
        simp at h1
        omega
      · cases (show false = true from hc')
    | _ => cases (show false = true from hc')) (fun c g o hc hH => by
    refine ⟨?_, rfl⟩
    cases c with
    | tag k f =>
      rcases k with _ | k
      · have h1 := hH.1
        simp only [N3] at h1
        simp at h1
        exact ⟨by simp only [N4]; simp [h1], fun h => by cases h⟩
      · cases (show false = true from hc)
    | _ => cases (show false = true from hc)) (fun g hg hF hH => by
    have h0 := hH.1
    simp only [N3] at h0
    simp at h0
    refine ⟨fun b cs hb => ?_, fun x hx => ?_⟩
    · obtain ⟨b1, b2, b3, b4⟩ := h.box_lt hb
      have b3' : w0.heap.size ≤ bm b := b3
      have hne : bm b ≠ g := fun e => by rw [e] at b2; omega
      exact ⟨by simpa [hne] using b4, by simp only [N4]; simp [b3'], rfl⟩
    · have hx' := hx
      simp only [N3] at hx'
      simp at hx'
      have hne : x ≠ g := fun e => by subst e; omega
      exact ⟨by simp [hne, sU], by simp only [N4]; simp [hx], rfl⟩) (fun _ => rfl) hB rfl hK
  exact ⟨k, F', Ow', bm', _, h1, h2⟩
end
end Go.Vs
end
section
namespace Go.Vs
variable {m : Bool} {β : Type}
abbrev El := List (aF false)
def sJ (e : El) (p : Nat) : List El := match e[p]? with | some (.sl _ es) => es | _ => []
def aBD (e : El) (p : Nat) : Int := match e[p]? with | some (.int _ n) => n | _ => 0
def aPL (e : El) (p : Nat) : Bool := match e[p]? with | some (.bool b) => b | _ => false
def bM (e : El) (p : Nat) : ByteArray := match e[p]? with | some (.str s) => s | _ => ⟨#[]⟩
theorem bT (b : Bool) : (b == true) = b := by cases b <;> rfl
theorem bF (b : Bool) : (b == false) = !b := by cases b <;> rfl
theorem jN (b : Bool) (x y : Option β) : aA (!b) x y = aA b y x := by cases b <;> rfl
theorem aMl (b : Bool) (x : Option β) : aA b x x = x := by cases b <;> rfl
def qZ (v : SV m) (k : Bool → Option β) : Option β := aS v fun l => eR l k
def aKp (v : SV m) (k : Int → Option β) : Option β := aS v fun l => eF .i64 l k
def aDe (v : SV m) (k : ByteArray → Option β) : Option β := aS v fun l => cR l k
def vSl (v : SV m) (k : List (List (aF m)) → Option β) : Option β := rD v fun _ es => k es
abbrev Ret (m : Bool) := Option (SV m × List (List (SV m)))
abbrev LE := List El
abbrev LT := List (List (aF true))
abbrev PS := List Nat × St false
abbrev PT := List Nat × St true
def cV (r : Ret m) (k : Bool → Option β) : Option β := r.bind fun r => qZ r.1 k
def sX (r : Ret m) (k : Int → Option β) : Option β := r.bind fun r => aKp r.1 k
def aMH (r : Ret m) (k : ByteArray → Option β) : Option β := r.bind fun r => aDe r.1 k
def rSl (r : Ret m) (k : List (List (aF m)) → Option β) : Option β := r.bind fun r => vSl r.1 k
def aB0 (t : TypeId) (r : Ret m) (k : List (List (aF m)) → Option β) : Option β := r.bind fun r => rK t r.1 k
def aIG (r : Ret m) (k : Bool → Option β) : Option β := r.bind fun r => oF r.2 (qZ r.1 k)
def aPd (r : Ret m) (k : Int → Option β) : Option β := r.bind fun r => oF r.2 (aKp r.1 k)
def aNV (r : Ret m) (k : ByteArray → Bool → Option β) : Option β := r.bind fun r => sW r.2 fun d r1 => dO d fun d r2 => aDe d fun s => jP r2 (oF r1 (qZ r.1 fun b => k s b))
def aQ5 (r : Ret m) (k : ByteArray → Int → Option β) : Option β := r.bind fun r => sW r.2 fun d r1 => dO d fun d r2 => aDe d fun s => jP r2 (oF r1 (aKp r.1 fun b => k s b))
def nX (t : TypeId) (r : Ret m) (k : List (List (aF m)) → Option β) : Option β := r.bind fun r => sW r.2 fun d r1 => dO d fun d r2 => rK t d fun es => jP r2 (oF r1 (nH r.1 fun vs => jP vs (k es)))
def aF4 (e : List (aF m)) (p : Nat) (k : Bool → Option β) : Option β := atK e p fun l => eR l k
def aDp (e : List (aF m)) (p : Nat) (k : Int → Option β) : Option β := atK e p fun l => eF .i64 l k
def eD (e : List (aF m)) (p : Nat) (k : ByteArray → Option β) : Option β := atK e p fun l => cR l k
def aSl (e : List (aF m)) (p : Nat) (k : List (List (aF m)) → Option β) : Option β := atK e p fun l => slK l fun _ es => k es
section
variable {b : Bool} {n : Int} {s : ByteArray} {es : List (List (aF m))} {c : Fl m} {bs : List (List (SV m))} {t : TypeId}
theorem aRx (k : Bool → Option β) : qZ (.leaf (.bool b) : SV m) k = k b := rfl
theorem aWW (k : Int → Option β) : aKp (.leaf (.int .i64 n) : SV m) k = k n := rfl
theorem aWX (k : ByteArray → Option β) : aDe (.leaf (.str s) : SV m) k = k s := rfl
theorem aW6 (k : List (List (aF m)) → Option β) : vSl (.leaf (.sl c es)) k = k es := rfl
theorem bY (k : Bool → Option β) : cV (some ((.leaf (.bool b) : SV m), bs)) k = k b := rfl
theorem fK (k : Int → Option β) : sX (some ((.leaf (.int .i64 n) : SV m), bs)) k = k n := rfl
theorem aAm (k : ByteArray → Option β) : aMH (some ((.leaf (.str s) : SV m), bs)) k = k s := rfl
theorem aW2 (k : List (List (aF m)) → Option β) : rSl (some ((.leaf (.sl c es)), bs)) k = k es := rfl
theorem kJ (k : List (List (aF m)) → Option β) : aB0 t (some ((.own (some t) es), bs)) k = k es := by show rK t (.own (some t) es) k = k es; simp
theorem aBr (k : Bool → Option β) : aIG (some ((.leaf (.bool b) : SV m), [])) k = k b := rfl
theorem aGc (k : Int → Option β) : aPd (some ((.leaf (.int .i64 n) : SV m), [])) k = k n := rfl
theorem aLH (k : ByteArray → Bool → Option β) : aNV (some ((.leaf (.bool b) : SV m), [[.leaf (.str s)]])) k = k s b := rfl
theorem aNi (k : ByteArray → Int → Option β) : aQ5 (some ((.leaf (.int .i64 n) : SV m), [[.leaf (.str s)]])) k = k s n := rfl
theorem fV (k : List (List (aF m)) → Option β) : nX t (some (.tup [], [[.own (some t) es]])) k = k es := by show rK t (.own (some t) es) _ = k es; simp
section
variable {r : List (aF m)}
theorem aSY (k : Bool → Option β) : aF4 (.bool b :: r) 0 k = k b := rfl
theorem aU6 (k : Int → Option β) : aDp (.int .i64 n :: r) 0 k = k n := rfl
theorem uB (k : ByteArray → Option β) : eD (.str s :: r) 0 k = k s := rfl
theorem aVO (k : List (List (aF m)) → Option β) : aSl (.sl c es :: r) 0 k = k es := rfl
end
theorem rB {l : aF m} {r : List (aF m)} {p : Nat} : (∀ k : Bool → Option β, aF4 (l :: r) (p + 1) k = aF4 r p k) ∧ (∀ k : Int → Option β, aDp (l :: r) (p + 1) k = aDp r p k) ∧ (∀ k : ByteArray → Option β, eD (l :: r) (p + 1) k = eD r p k) ∧
    (∀ k : List (List (aF m)) → Option β, aSl (l :: r) (p + 1) k = aSl r p k) := ⟨fun _ => rfl, fun _ => rfl, fun _ => rfl, fun _ => rfl⟩
end
theorem rdR : (∀ (m : Bool) (β : Type) (b : Bool) (k : Bool → Option β), qZ (.leaf (.bool b) : SV m) k = k b) ∧
    (∀ (m : Bool) (β : Type) (n : Int) (k : Int → Option β), aKp (.leaf (.int .i64 n) : SV m) k = k n) ∧
    (∀ (m : Bool) (β : Type) (s : ByteArray) (k : ByteArray → Option β), aDe (.leaf (.str s) : SV m) k = k s) ∧
    (∀ (m : Bool) (β : Type) (c : Fl m) (es : List (List (aF m))) (k : List (List (aF m)) → Option β), vSl (.leaf (.sl c es)) k = k es) ∧
    (∀ (m : Bool) (β : Type) (b : Bool) (bs : List (List (SV m))) (k : Bool → Option β), cV (some ((.leaf (.bool b) : SV m), bs)) k = k b) ∧
    (∀ (m : Bool) (β : Type) (n : Int) (bs : List (List (SV m))) (k : Int → Option β), sX (some ((.leaf (.int .i64 n) : SV m), bs)) k = k n) ∧
    (∀ (m : Bool) (β : Type) (s : ByteArray) (bs : List (List (SV m))) (k : ByteArray → Option β), aMH (some ((.leaf (.str s) : SV m), bs)) k = k s) ∧
    (∀ (m : Bool) (β : Type) (c : Fl m) (es : List (List (aF m))) (bs : List (List (SV m))) (k : List (List (aF m)) → Option β), rSl (some ((.leaf (.sl c es)), bs)) k = k es) ∧
    (∀ (m : Bool) (β : Type) (t : TypeId) (es : List (List (aF m))) (bs : List (List (SV m))) (k : List (List (aF m)) → Option β), aB0 t (some ((.own (some t) es), bs)) k = k es) ∧
    (∀ (m : Bool) (β : Type) (b : Bool) (k : Bool → Option β), aIG (some ((.leaf (.bool b) : SV m), [])) k = k b) ∧
    (∀ (m : Bool) (β : Type) (n : Int) (k : Int → Option β), aPd (some ((.leaf (.int .i64 n) : SV m), [])) k = k n) ∧
    (∀ (m : Bool) (β : Type) (b : Bool) (s : ByteArray) (k : ByteArray → Bool → Option β), aNV (some ((.leaf (.bool b) : SV m), [[.leaf (.str s)]])) k = k s b) ∧
    (∀ (m : Bool) (β : Type) (n : Int) (s : ByteArray) (k : ByteArray → Int → Option β), aQ5 (some ((.leaf (.int .i64 n) : SV m), [[.leaf (.str s)]])) k = k s n) ∧
    (∀ (m : Bool) (β : Type) (t : TypeId) (es : List (List (aF m))) (k : List (List (aF m)) → Option β), nX t (some (.tup [], [[.own (some t) es]])) k = k es) ∧
    (∀ (m : Bool) (β : Type) (b : Bool) (r : List (aF m)) (k : Bool → Option β), aF4 (.bool b :: r) 0 k = k b) ∧
    (∀ (m : Bool) (β : Type) (n : Int) (r : List (aF m)) (k : Int → Option β), aDp (.int .i64 n :: r) 0 k = k n) ∧
    (∀ (m : Bool) (β : Type) (s : ByteArray) (r : List (aF m)) (k : ByteArray → Option β), eD (.str s :: r) 0 k = k s) ∧
    (∀ (m : Bool) (β : Type) (c : Fl m) (es : List (List (aF m))) (r : List (aF m)) (k : List (List (aF m)) → Option β), aSl (.sl c es :: r) 0 k = k es) ∧
    (∀ (β : Type) (α : Type) (x : α) (f : α → Option β), (some x).bind f = f x) ∧
    (∀ (m : Bool) (β : Type) (vs : List (SV m)) (k : List (SV m) → Option β), nH (.tup vs) k = k vs) ∧
    (∀ (m : Bool) (β : Type) (v : SV m) (r : List (SV m)) (k : SV m → List (SV m) → Option β), dO (v :: r) k = k v r) ∧
    (∀ (m : Bool) (β : Type) (v : List (SV m)) (r : List (List (SV m))) (k : List (SV m) → List (List (SV m)) → Option β), sW (v :: r) k = k v r) ∧
    (∀ (m : Bool) (β : Type) (k : Option β), jP ([] : List (SV m)) k = k) ∧
    (∀ (m : Bool) (β : Type) (k : Option β), oF ([] : List (List (SV m))) k = k) ∧
    (∀ (m : Bool) (β : Type) (cs : List (aF m)) (k : List (aF m) → Option β), gK (.agg cs) k = k cs) ∧
    (∀ (m : Bool) (β : Type) (e : TypeId) (es : List (List (aF m))) (k : List (List (aF m)) → Option β), rK e (.own (some e) es) k = k es) ∧
    (∀ (β : Type) (x y : Option β), aA true x y = x) ∧
    (∀ (β : Type) (x y : Option β), aA false x y = y) ∧
    (∀ (β : Type) (x : Option β), aB true x = x) :=
  ⟨fun _ _ _ _ => rfl, fun _ _ _ _ => rfl, fun _ _ _ _ => rfl, fun _ _ _ _ _ => rfl, fun _ _ _ _ _ => rfl, fun _ _ _ _ _ => rfl, fun _ _ _ _ _ => rfl, fun _ _ _ _ _ _ => rfl, fun _ _ _ _ _ k => kJ k, fun _ _ _ _ => rfl, fun _ _ _ _ => rfl, fun _ _ _ _ _ => rfl, fun _ _ _ _ _ => rfl, fun _ _ _ _ k => fV k, fun _ _ _ _ _ => rfl, fun _ _ _ _ _ => rfl, fun _ _ _ _ _ => rfl, fun _ _ _ _ _ _ => rfl, fun _ _ _ _ => rfl, fun _ _ _ _ => rfl, fun _ _ _ _ _ => rfl, fun _ _ _ _ _ => rfl, fun _ _ _ => rfl, fun _ _ _ => rfl, fun _ _ _ _ => rfl, fun _ _ => sO, fun _ _ _ => rfl, fun _ _ _ => rfl, fun _ _ => rfl⟩
theorem inI : (∀ a b : Nat, ((a : Int) < (b : Int)) = (a < b)) ∧ (∀ n : Nat, (0 ≤ (n : Int)) = True) ∧ (∀ n : Nat, ((n : Int)).toNat = n) ∧ decide True = true ∧ (∀ b : Bool, (b && true) = b) ∧ (∀ b : Bool, (true && b) = b) ∧ (∀ (β : Type) (x y : Option β), aA true x y = x) ∧ (∀ (β : Type) (x : Option β), aB true x = x) :=
  ⟨fun _ _ => propext Int.ofNat_lt, fun _ => eq_true (Int.natCast_nonneg _), Int.toNat_natCast, by decide, Bool.and_true, Bool.true_and, fun _ _ _ => rfl, fun _ _ => rfl⟩
end Go.Vs
end
section
namespace Go.Vs
variable {β : Type}
structure dR where
  mk ::
  (a0 a1 : ByteArray)
def dR.l (x : dR) : El := [.str x.a0, .str x.a1]
def dR.b (x : dR) : List (SV false) := [.leaf (.str x.a0), .leaf (.str x.a1)]
def dR.rd (e : El) (k : dR → Option β) : Option β := eD e 0 fun a0 => eD e 1 fun a1 => k ⟨a0, a1⟩
def dR.va (v : SV false) (k : dR → Option β) : Option β := gK v fun e => aB (e.length == 2) (dR.rd e k)
theorem dR.rd_l (x : dR) (k : dR → Option β) : dR.rd x.l k = k x := rfl
theorem dR.va_l (x : dR) (k : dR → Option β) : dR.va (.agg x.l) k = k x := rfl
def dR.of (e : El) : dR := ⟨bM e 0, bM e 1⟩
theorem dR.of_l (x : dR) : dR.of x.l = x := rfl
theorem dR.len (x : dR) : x.l.length = 2 := rfl
structure cX where
  mk ::
  (a0 : Int) (a1 : ByteArray) (a2 a3 : List El)
def cX.l (x : cX) : El := [.int .i64 x.a0, .str x.a1, .sl fP x.a2, .sl fP x.a3]
def cX.b (x : cX) : List (SV false) := [.leaf (.int .i64 x.a0), .leaf (.str x.a1), .leaf (.sl fP x.a2), .leaf (.sl fP x.a3)]
def cX.rd (e : El) (k : cX → Option β) : Option β := aDp e 0 fun a0 => eD e 1 fun a1 => aSl e 2 fun a2 => aSl e 3 fun a3 => k ⟨a0, a1, a2, a3⟩
def cX.va (v : SV false) (k : cX → Option β) : Option β := gK v fun e => aB (e.length == 4) (cX.rd e k)
theorem cX.rd_l (x : cX) (k : cX → Option β) : cX.rd x.l k = k x := rfl
theorem cX.va_l (x : cX) (k : cX → Option β) : cX.va (.agg x.l) k = k x := rfl
def cX.of (e : El) : cX := ⟨aBD e 0, bM e 1, sJ e 2, sJ e 3⟩
theorem cX.of_l (x : cX) : cX.of x.l = x := rfl
theorem cX.len (x : cX) : x.l.length = 4 := rfl
structure gL where
  mk ::
  (a0 : ByteArray) (a1 : Int) (a2 : ByteArray) (a3 a4 : List El)
def gL.l (x : gL) : El := [.str x.a0, .int .i64 x.a1, .str x.a2, .sl fP x.a3, .sl fP x.a4]
def gL.b (x : gL) : List (SV false) := [.leaf (.str x.a0), .leaf (.int .i64 x.a1), .leaf (.str x.a2), .leaf (.sl fP x.a3), .leaf (.sl fP x.a4)]
def gL.rd (e : El) (k : gL → Option β) : Option β := eD e 0 fun a0 => aDp e 1 fun a1 => eD e 2 fun a2 => aSl e 3 fun a3 => aSl e 4 fun a4 => k ⟨a0, a1, a2, a3, a4⟩
def gL.va (v : SV false) (k : gL → Option β) : Option β := gK v fun e => aB (e.length == 5) (gL.rd e k)
theorem gL.rd_l (x : gL) (k : gL → Option β) : gL.rd x.l k = k x := rfl
theorem gL.va_l (x : gL) (k : gL → Option β) : gL.va (.agg x.l) k = k x := rfl
def gL.of (e : El) : gL := ⟨bM e 0, aBD e 1, bM e 2, sJ e 3, sJ e 4⟩
theorem gL.of_l (x : gL) : gL.of x.l = x := rfl
theorem gL.len (x : gL) : x.l.length = 5 := rfl
structure yZ where
  mk ::
  (a0 : ByteArray) (a1 : List El)
def yZ.l (x : yZ) : El := [.str x.a0, .sl fP x.a1]
def yZ.b (x : yZ) : List (SV false) := [.leaf (.str x.a0), .leaf (.sl fP x.a1)]
def yZ.rd (e : El) (k : yZ → Option β) : Option β := eD e 0 fun a0 => aSl e 1 fun a1 => k ⟨a0, a1⟩
def yZ.va (v : SV false) (k : yZ → Option β) : Option β := gK v fun e => aB (e.length == 2) (yZ.rd e k)
theorem yZ.rd_l (x : yZ) (k : yZ → Option β) : yZ.rd x.l k = k x := rfl
theorem yZ.va_l (x : yZ) (k : yZ → Option β) : yZ.va (.agg x.l) k = k x := rfl
def yZ.of (e : El) : yZ := ⟨bM e 0, sJ e 1⟩
theorem yZ.of_l (x : yZ) : yZ.of x.l = x := rfl
theorem yZ.len (x : yZ) : x.l.length = 2 := rfl
structure bC where
  mk ::
  (a0 a1 a2 a3 : ByteArray) (a4 : Bool) (a5 : Int) (a6 : ByteArray) (a7 a8 a9 : List El)
def bC.l (x : bC) : El := [.str x.a0, .str x.a1, .str x.a2, .str x.a3, .bool x.a4, .int .i64 x.a5, .str x.a6, .sl fP x.a7, .sl fP x.a8, .sl fP x.a9]
def bC.b (x : bC) : List (SV false) := [.leaf (.str x.a0), .leaf (.str x.a1), .leaf (.str x.a2), .leaf (.str x.a3), .leaf (.bool x.a4), .leaf (.int .i64 x.a5), .leaf (.str x.a6), .leaf (.sl fP x.a7), .leaf (.sl fP x.a8), .leaf (.sl fP x.a9)]
def bC.rd (e : El) (k : bC → Option β) : Option β := eD e 0 fun a0 => eD e 1 fun a1 => eD e 2 fun a2 => eD e 3 fun a3 => aF4 e 4 fun a4 => aDp e 5 fun a5 => eD e 6 fun a6 => aSl e 7 fun a7 => aSl e 8 fun a8 => aSl e 9 fun a9 => k ⟨a0, a1, a2, a3, a4, a5, a6, a7, a8, a9⟩
def bC.va (v : SV false) (k : bC → Option β) : Option β := gK v fun e => aB (e.length == 10) (bC.rd e k)
theorem bC.rd_l (x : bC) (k : bC → Option β) : bC.rd x.l k = k x := rfl
theorem bC.va_l (x : bC) (k : bC → Option β) : bC.va (.agg x.l) k = k x := rfl
def bC.of (e : El) : bC := ⟨bM e 0, bM e 1, bM e 2, bM e 3, aPL e 4, aBD e 5, bM e 6, sJ e 7, sJ e 8, sJ e 9⟩
theorem bC.of_l (x : bC) : bC.of x.l = x := rfl
theorem bC.len (x : bC) : x.l.length = 10 := rfl
structure bQ where
  mk ::
  (a0 a1 : ByteArray) (a2 : List El) (a3 a4 : ByteArray) (a5 : List El)
def bQ.l (x : bQ) : El := [.str x.a0, .str x.a1, .sl fP x.a2, .str x.a3, .str x.a4, .sl fP x.a5]
def bQ.b (x : bQ) : List (SV false) := [.leaf (.str x.a0), .leaf (.str x.a1), .leaf (.sl fP x.a2), .leaf (.str x.a3), .leaf (.str x.a4), .leaf (.sl fP x.a5)]
def bQ.rd (e : El) (k : bQ → Option β) : Option β := eD e 0 fun a0 => eD e 1 fun a1 => aSl e 2 fun a2 => eD e 3 fun a3 => eD e 4 fun a4 => aSl e 5 fun a5 => k ⟨a0, a1, a2, a3, a4, a5⟩
def bQ.va (v : SV false) (k : bQ → Option β) : Option β := gK v fun e => aB (e.length == 6) (bQ.rd e k)
theorem bQ.rd_l (x : bQ) (k : bQ → Option β) : bQ.rd x.l k = k x := rfl
theorem bQ.va_l (x : bQ) (k : bQ → Option β) : bQ.va (.agg x.l) k = k x := rfl
def bQ.of (e : El) : bQ := ⟨bM e 0, bM e 1, sJ e 2, bM e 3, bM e 4, sJ e 5⟩
theorem bQ.of_l (x : bQ) : bQ.of x.l = x := rfl
theorem bQ.len (x : bQ) : x.l.length = 6 := rfl
structure kO where
  mk ::
  (a0 a1 : ByteArray) (a2 : List El)
def kO.l (x : kO) : El := [.str x.a0, .str x.a1, .sl fP x.a2]
def kO.b (x : kO) : List (SV false) := [.leaf (.str x.a0), .leaf (.str x.a1), .leaf (.sl fP x.a2)]
def kO.rd (e : El) (k : kO → Option β) : Option β := eD e 0 fun a0 => eD e 1 fun a1 => aSl e 2 fun a2 => k ⟨a0, a1, a2⟩
def kO.va (v : SV false) (k : kO → Option β) : Option β := gK v fun e => aB (e.length == 3) (kO.rd e k)
theorem kO.rd_l (x : kO) (k : kO → Option β) : kO.rd x.l k = k x := rfl
theorem kO.va_l (x : kO) (k : kO → Option β) : kO.va (.agg x.l) k = k x := rfl
def kO.of (e : El) : kO := ⟨bM e 0, bM e 1, sJ e 2⟩
theorem kO.of_l (x : kO) : kO.of x.l = x := rfl
theorem kO.len (x : kO) : x.l.length = 3 := rfl
structure pD where
  mk ::
  (a0 : Int) (a1 : ByteArray)
def pD.l (x : pD) : El := [.int .i64 x.a0, .str x.a1]
def pD.b (x : pD) : List (SV false) := [.leaf (.int .i64 x.a0), .leaf (.str x.a1)]
def pD.rd (e : El) (k : pD → Option β) : Option β := aDp e 0 fun a0 => eD e 1 fun a1 => k ⟨a0, a1⟩
def pD.va (v : SV false) (k : pD → Option β) : Option β := gK v fun e => aB (e.length == 2) (pD.rd e k)
theorem pD.rd_l (x : pD) (k : pD → Option β) : pD.rd x.l k = k x := rfl
theorem pD.va_l (x : pD) (k : pD → Option β) : pD.va (.agg x.l) k = k x := rfl
def pD.of (e : El) : pD := ⟨aBD e 0, bM e 1⟩
theorem pD.of_l (x : pD) : pD.of x.l = x := rfl
theorem pD.len (x : pD) : x.l.length = 2 := rfl
structure aG where
  mk ::
  (a0 : Int) (a1 : Bool) (a2 a3 : ByteArray) (a4 a5 a6 a7 a8 : List El) (a9 : Bool) (a10 : List El)
def aG.l (x : aG) : El := [.int .i64 x.a0, .bool x.a1, .str x.a2, .str x.a3, .sl fP x.a4, .sl fP x.a5, .sl fP x.a6, .sl fP x.a7, .sl fP x.a8, .bool x.a9, .sl fP x.a10]
def aG.b (x : aG) : List (SV false) := [.leaf (.int .i64 x.a0), .leaf (.bool x.a1), .leaf (.str x.a2), .leaf (.str x.a3), .leaf (.sl fP x.a4), .leaf (.sl fP x.a5), .leaf (.sl fP x.a6), .leaf (.sl fP x.a7), .leaf (.sl fP x.a8), .leaf (.bool x.a9), .leaf (.sl fP x.a10)]
def aG.rd (e : El) (k : aG → Option β) : Option β := aDp e 0 fun a0 => aF4 e 1 fun a1 => eD e 2 fun a2 => eD e 3 fun a3 => aSl e 4 fun a4 => aSl e 5 fun a5 => aSl e 6 fun a6 => aSl e 7 fun a7 => aSl e 8 fun a8 => aF4 e 9 fun a9 => aSl e 10 fun a10 => k ⟨a0, a1, a2, a3, a4, a5, a6, a7, a8, a9, a10⟩
def aG.va (v : SV false) (k : aG → Option β) : Option β := gK v fun e => aB (e.length == 11) (aG.rd e k)
theorem aG.rd_l (x : aG) (k : aG → Option β) : aG.rd x.l k = k x := rfl
theorem aG.va_l (x : aG) (k : aG → Option β) : aG.va (.agg x.l) k = k x := rfl
def aG.of (e : El) : aG := ⟨aBD e 0, aPL e 1, bM e 2, bM e 3, sJ e 4, sJ e 5, sJ e 6, sJ e 7, sJ e 8, aPL e 9, sJ e 10⟩
theorem aG.of_l (x : aG) : aG.of x.l = x := rfl
theorem aG.len (x : aG) : x.l.length = 11 := rfl
structure bK where
  mk ::
  (a0 a1 a2 : List El)
def bK.l (x : bK) : El := [.sl fP x.a0, .sl fP x.a1, .sl fP x.a2]
def bK.b (x : bK) : List (SV false) := [.leaf (.sl fP x.a0), .leaf (.sl fP x.a1), .leaf (.sl fP x.a2)]
def bK.rd (e : El) (k : bK → Option β) : Option β := aSl e 0 fun a0 => aSl e 1 fun a1 => aSl e 2 fun a2 => k ⟨a0, a1, a2⟩
def bK.va (v : SV false) (k : bK → Option β) : Option β := gK v fun e => aB (e.length == 3) (bK.rd e k)
theorem bK.rd_l (x : bK) (k : bK → Option β) : bK.rd x.l k = k x := rfl
theorem bK.va_l (x : bK) (k : bK → Option β) : bK.va (.agg x.l) k = k x := rfl
def bK.of (e : El) : bK := ⟨sJ e 0, sJ e 1, sJ e 2⟩
theorem bK.of_l (x : bK) : bK.of x.l = x := rfl
theorem bK.len (x : bK) : x.l.length = 3 := rfl
structure qJ where
  mk ::
  (a0 : Int) (a1 a2 : ByteArray)
def qJ.l (x : qJ) : El := [.int .i64 x.a0, .str x.a1, .str x.a2]
def qJ.b (x : qJ) : List (SV false) := [.leaf (.int .i64 x.a0), .leaf (.str x.a1), .leaf (.str x.a2)]
def qJ.rd (e : El) (k : qJ → Option β) : Option β := aDp e 0 fun a0 => eD e 1 fun a1 => eD e 2 fun a2 => k ⟨a0, a1, a2⟩
def qJ.va (v : SV false) (k : qJ → Option β) : Option β := gK v fun e => aB (e.length == 3) (qJ.rd e k)
theorem qJ.rd_l (x : qJ) (k : qJ → Option β) : qJ.rd x.l k = k x := rfl
theorem qJ.va_l (x : qJ) (k : qJ → Option β) : qJ.va (.agg x.l) k = k x := rfl
def qJ.of (e : El) : qJ := ⟨aBD e 0, bM e 1, bM e 2⟩
theorem qJ.of_l (x : qJ) : qJ.of x.l = x := rfl
theorem qJ.len (x : qJ) : x.l.length = 3 := rfl
theorem atP : (∀ (β : Type) (x : dR), (∀ k : ByteArray → Option β, eD x.l 0 k = k x.a0) ∧ (∀ k : ByteArray → Option β, eD x.l 1 k = k x.a1)) ∧ (∀ (β : Type) (x : cX), (∀ k : Int → Option β, aDp x.l 0 k = k x.a0) ∧ (∀ k : ByteArray → Option β, eD x.l 1 k = k x.a1) ∧ (∀ k : List El → Option β, aSl x.l 2 k = k x.a2) ∧ (∀ k : List El → Option β, aSl x.l 3 k = k x.a3)) ∧ (∀ (β : Type) (x : gL), (∀ k : ByteArray → Option β, eD x.l 0 k = k x.a0) ∧ (∀ k : Int → Option β, aDp x.l 1 k = k x.a1) ∧ (∀ k : ByteArray → Option β, eD x.l 2 k = k x.a2) ∧ (∀ k : List El → Option β, aSl x.l 3 k = k x.a3) ∧ (∀ k : List El → Option β, aSl x.l 4 k = k x.a4)) ∧ (∀ (β : Type) (x : yZ), (∀ k : ByteArray → Option β, eD x.l 0 k = k x.a0) ∧ (∀ k : List El → Option β, aSl x.l 1 k = k x.a1)) ∧ (∀ (β : Type) (x : bC), (∀ k : ByteArray → Option β, eD x.l 0 k = k x.a0) ∧ (∀ k : ByteArray → Option β, eD x.l 1 k = k x.a1) ∧ (∀ k : ByteArray → Option β, eD x.l 2 k = k x.a2) ∧ (∀ k : ByteArray → Option β, eD x.l 3 k = k x.a3) ∧ (∀ k : Bool → Option β, aF4 x.l 4 k = k x.a4) ∧ (∀ k : Int → Option β, aDp x.l 5 k = k x.a5) ∧ (∀ k : ByteArray → Option β, eD x.l 6 k = k x.a6) ∧ (∀ k : List El → Option β, aSl x.l 7 k = k x.a7) ∧ (∀ k : List El → Option β, aSl x.l 8 k = k x.a8) ∧ (∀ k : List El → Option β, aSl x.l 9 k = k x.a9)) ∧ (∀ (β : Type) (x : bQ), (∀ k : ByteArray → Option β, eD x.l 0 k = k x.a0) ∧ (∀ k : ByteArray → Option β, eD x.l 1 k = k x.a1) ∧ (∀ k : List El → Option β, aSl x.l 2 k = k x.a2) ∧ (∀ k : ByteArray → Option β, eD x.l 3 k = k x.a3) ∧ (∀ k : ByteArray → Option β, eD x.l 4 k = k x.a4) ∧ (∀ k : List El → Option β, aSl x.l 5 k = k x.a5)) ∧ (∀ (β : Type) (x : kO), (∀ k : ByteArray → Option β, eD x.l 0 k = k x.a0) ∧ (∀ k : ByteArray → Option β, eD x.l 1 k = k x.a1) ∧ (∀ k : List El → Option β, aSl x.l 2 k = k x.a2)) ∧ (∀ (β : Type) (x : pD), (∀ k : Int → Option β, aDp x.l 0 k = k x.a0) ∧ (∀ k : ByteArray → Option β, eD x.l 1 k = k x.a1)) ∧ (∀ (β : Type) (x : aG), (∀ k : Int → Option β, aDp x.l 0 k = k x.a0) ∧ (∀ k : Bool → Option β, aF4 x.l 1 k = k x.a1) ∧ (∀ k : ByteArray → Option β, eD x.l 2 k = k x.a2) ∧ (∀ k : ByteArray → Option β, eD x.l 3 k = k x.a3) ∧ (∀ k : List El → Option β, aSl x.l 4 k = k x.a4) ∧ (∀ k : List El → Option β, aSl x.l 5 k = k x.a5) ∧ (∀ k : List El → Option β, aSl x.l 6 k = k x.a6) ∧ (∀ k : List El → Option β, aSl x.l 7 k = k x.a7) ∧ (∀ k : List El → Option β, aSl x.l 8 k = k x.a8) ∧ (∀ k : Bool → Option β, aF4 x.l 9 k = k x.a9) ∧ (∀ k : List El → Option β, aSl x.l 10 k = k x.a10)) ∧ (∀ (β : Type) (x : bK), (∀ k : List El → Option β, aSl x.l 0 k = k x.a0) ∧ (∀ k : List El → Option β, aSl x.l 1 k = k x.a1) ∧ (∀ k : List El → Option β, aSl x.l 2 k = k x.a2)) ∧ (∀ (β : Type) (x : qJ), (∀ k : Int → Option β, aDp x.l 0 k = k x.a0) ∧ (∀ k : ByteArray → Option β, eD x.l 1 k = k x.a1) ∧ (∀ k : ByteArray → Option β, eD x.l 2 k = k x.a2)) := ⟨fun _ _ => ⟨fun _ => rfl, fun _ => rfl⟩, fun _ _ => ⟨fun _ => rfl, fun _ => rfl, fun _ => rfl, fun _ => rfl⟩, fun _ _ => ⟨fun _ => rfl, fun _ => rfl, fun _ => rfl, fun _ => rfl, fun _ => rfl⟩, fun _ _ => ⟨fun _ => rfl, fun _ => rfl⟩, fun _ _ => ⟨fun _ => rfl, fun _ => rfl, fun _ => rfl, fun _ => rfl, fun _ => rfl, fun _ => rfl, fun _ => rfl, fun _ => rfl, fun _ => rfl, fun _ => rfl⟩, fun _ _ => ⟨fun _ => rfl, fun _ => rfl, fun _ => rfl, fun _ => rfl, fun _ => rfl, fun _ => rfl⟩, fun _ _ => ⟨fun _ => rfl, fun _ => rfl, fun _ => rfl⟩, fun _ _ => ⟨fun _ => rfl, fun _ => rfl⟩, fun _ _ => ⟨fun _ => rfl, fun _ => rfl, fun _ => rfl, fun _ => rfl, fun _ => rfl, fun _ => rfl, fun _ => rfl, fun _ => rfl, fun _ => rfl, fun _ => rfl, fun _ => rfl⟩, fun _ _ => ⟨fun _ => rfl, fun _ => rfl, fun _ => rfl⟩, fun _ _ => ⟨fun _ => rfl, fun _ => rfl, fun _ => rfl⟩⟩
end Go.Vs
end
section
set_option linter.unusedVariables false
namespace Go.Vs
theorem aX {i : Nat} (h : i < maxLen) : IntKind.i64.wrap ((i : Int) + 1) = ((i + 1 : Nat) : Int) := by
  have hm : maxLen = 9223372036854775807 := rfl
  rw [rM (by omega) (by omega)]; rfl
mutual
def szF : aF false → Int → Int
  | .str s, n => if IntKind.i64.wrap (n - (s.size : Int)) < 0 then -1 else IntKind.i64.wrap (n - (s.size : Int))
  | .sl _ es, n => if IntKind.i64.wrap (n - (es.length : Int)) < 0 then -1 else szE es (IntKind.i64.wrap (n - (es.length : Int)))
  | .bool _, n => n
  | .int _ _, n => n
  | .unk, n => n
  | .nl _, n => n
def szL : List (aF false) → Int → Int
  | [], n => n
  | l :: r, n => if szF l n < 0 then -1 else szL r (szF l n)
def szE : List (List (aF false)) → Int → Int
  | [], n => n
  | e :: es, n => if szL e n < 0 then -1 else szE es (szL e n)
end
theorem aNY : ∀ (a b : List (aF false)) (n : Int), 0 ≤ n → szL (a ++ b) n = if szL a n < 0 then -1 else szL b (szL a n)
  | [], b, n, h => by simp [szL, Int.not_lt.2 h]
  | l :: a, b, n, h => by
    simp only [List.cons_append, szL]
    by_cases h1 : szF l n < 0
    · simp [h1]
    · simp only [h1, if_false]
      exact aNY a b _ (by omega)
section
variable {r : List (aF false)} {n : Int}
abbrev aK (n : Int) : SV false := .leaf (.int .i64 n)
abbrev aJ (b : Bool) : SV false := .leaf (.bool b)
abbrev vsl (es : List (List (aF false))) : SV false := .leaf (.sl fP es)
abbrev Res := Option (SV false × List (List (SV false)))
theorem yI {s : ByteArray} {Y : Res} (g : 0 ≤ IntKind.i64.wrap (n - (s.size : Int)) → Y = some (aK (szL r (IntKind.i64.wrap (n - (s.size : Int)))), [])) :
    aA (decide (IntKind.i64.wrap (n - (s.size : Int)) < 0)) (some (SV.leaf (aF.int .i64 (-1)), [])) Y = some (aK (szL (.str s :: r) n), []) := by
  rw [kS]
  by_cases h : IntKind.i64.wrap (n - (s.size : Int)) < 0
  · simp [h, szL, szF]
  · simp only [h, decide_false, Bool.false_eq_true, if_false, szL, szF]
    exact g (by omega)
theorem aSp {k : IntKind} {z : Int} {Y : Res} (hn : 0 ≤ n) (g : Y = some (aK (szL r n), [])) : Y = some (aK (szL (.int k z :: r) n), []) := by
  rw [g]; simp [szL, szF, Int.not_lt.2 hn]
theorem aQp {b : Bool} {Y : Res} (hn : 0 ≤ n) (g : Y = some (aK (szL r n), [])) : Y = some (aK (szL (.bool b :: r) n), []) := by
  rw [g]; simp [szL, szF, Int.not_lt.2 hn]
theorem aM7 {d : Res} {a : List (aF false)} {Y : Int → Res} (hd : d = some (aK (szL a n), [])) (hn : 0 ≤ n) (g : ∀ k, 0 ≤ k → Y k = some (aK (szL r k), [])) :
    (d.bind fun r => aS r.fst fun l => eF .i64 l fun n => aA (decide (n < 0)) (some (SV.leaf (aF.int .i64 (-1)), [])) (Y n)) = some (aK (szL (a ++ r) n), []) := by
  rw [hd, aNY _ _ _ hn]
  simp only [Option.bind_some, bV, cQ, kS]
  by_cases h : szL a n < 0
  · simp [h]
  · simp only [h, decide_false, Bool.false_eq_true, if_false]
    exact g _ (by omega)
theorem lY {d : Res} {es : List (List (aF false))} {Y : Int → Res} (hd : d = some (aK (szF (.sl fP es) n), [])) (g : ∀ k, 0 ≤ k → Y k = some (aK (szL r k), [])) :
    (d.bind fun r => aS r.fst fun l => eF .i64 l fun n => aA (decide (n < 0)) (some (SV.leaf (aF.int .i64 (-1)), [])) (Y n)) = some (aK (szL (.sl fP es :: r) n), []) := by
  rw [hd]
  simp only [Option.bind_some, bV, cQ, kS, szL]
  by_cases h : szF (.sl fP es) n < 0
  · simp [h]
  · simp only [h, decide_false, Bool.false_eq_true, if_false]
    exact g _ (by omega)
theorem aEl {es : List (List (aF false))} {Y : Res} (g : 0 ≤ IntKind.i64.wrap (n - (es.length : Int)) → Y = some (aK (szE es (IntKind.i64.wrap (n - (es.length : Int)))), [])) :
    aA (decide (IntKind.i64.wrap (n - (es.length : Int)) < 0)) (some (SV.leaf (aF.int .i64 (-1)), [])) Y = some (aK (szF (.sl fP es) n), []) := by
  rw [kS, szF]
  by_cases h : IntKind.i64.wrap (n - (es.length : Int)) < 0
  · simp [h]
  · simp only [h, decide_false, Bool.false_eq_true, if_false]
    exact g (by omega)
theorem aCJ {e : List (aF false)} {es : List (List (aF false))} {d : Res} {Y : Int → Res} (hd : d = some (aK (szL e n), [])) (g : ∀ k, 0 ≤ k → Y k = some (aK (szE es k), [])) :
    (d.bind fun r => aS r.fst fun l => eF .i64 l fun n => aA (decide (n < 0)) (some (SV.leaf (aF.int .i64 (-1)), [])) (Y n)) = some (aK (szE (e :: es) n), []) := by
  rw [hd]
  simp only [Option.bind_some, bV, cQ, kS, szE]
  by_cases h : szL e n < 0
  · simp [h]
  · simp only [h, decide_false, Bool.false_eq_true, if_false]
    exact g _ (by omega)
theorem aUl {s : ByteArray} {es : List (List (aF false))} {Y : Res} (g : 0 ≤ IntKind.i64.wrap (n - (s.size : Int)) → Y = some (aK (szE es (IntKind.i64.wrap (n - (s.size : Int)))), [])) :
    aA (decide (IntKind.i64.wrap (n - (s.size : Int)) < 0)) (some (SV.leaf (aF.int .i64 (-1)), [])) Y = some (aK (szE ([.str s] :: es) n), []) := by
  rw [kS]
  by_cases h : IntKind.i64.wrap (n - (s.size : Int)) < 0
  · simp [h, szE, szL, szF]
  · simp only [h, decide_false, Bool.false_eq_true, if_false, szE, szL, szF]
    exact g (by omega)
end
mutual
def mkF : aF false → Int → Int
  | .str _, k => IntKind.i64.wrap (k + 1)
  | .bool _, k => IntKind.i64.wrap (k + 1)
  | .int _ _, k => IntKind.i64.wrap (k + 1)
  | .sl _ es, k => mkE es k
  | .unk, k => k
  | .nl _, k => k
def mkL : List (aF false) → Int → Int
  | [], k => k
  | l :: r, k => mkL r (mkF l k)
def mkE : List (List (aF false)) → Int → Int
  | [], k => k
  | e :: es, k => mkE es (mkL e k)
end
theorem aR7 : ∀ (a b : List (aF false)) (k : Int), mkL (a ++ b) k = mkL b (mkL a k)
  | [], _, _ => rfl
  | l :: a, b, k => by simp only [List.cons_append, mkL]; exact aR7 a b _
mutual
def tF : aF false → Nat
  | .sl _ es => es.length + tE es
  | _ => 0
def tL : List (aF false) → Nat
  | [] => 0
  | l :: r => tF l + tL r
def tE : List (List (aF false)) → Nat
  | [] => 0
  | e :: es => tL e + tE es
end
mutual
def okF (z : Nat) : aF false → Prop
  | .str s => s.size ≤ maxLen
  | .sl _ es => es.length ≤ maxLen ∧ okE z es
  | _ => True
def okL (z : Nat) : List (aF false) → Prop
  | [] => True
  | l :: r => okF z l ∧ okL z r
def okE (z : Nat) : List (List (aF false)) → Prop
  | [] => True
  | e :: es => e.length ≤ z ∧ okL z e ∧ okE z es
end
def cap : Int := 4611686018427387904
mutual
theorem aVR {z : Nat} : ∀ (l : aF false) (n : Int), okF z l → 0 ≤ n → n ≤ cap → 0 ≤ szF l n → szF l n ≤ n ∧ (tF l : Int) ≤ n - szF l n
  | .str s, n, ho, h0, hn, h => by
    have hm : maxLen = 9223372036854775807 := rfl
    simp only [okF] at ho
    simp only [szF, tF, cap] at *
    rw [rM (by omega) (by omega)] at h ⊢
    split at h <;> simp_all <;> omega
  | .sl _ es, n, ho, h0, hn, h => by
    have hm : maxLen = 9223372036854775807 := rfl
    simp only [okF] at ho
    simp only [szF, tF] at *
    rw [rM (by simp only [cap] at hn; omega) (by simp only [cap] at hn; omega)] at h ⊢
    by_cases hl : n - (es.length : Int) < 0
    · simp [hl] at h
    · simp only [hl, if_false] at h ⊢
      have := aVS es (n - es.length) ho.2 (by omega) (by omega) h
      omega
  | .bool _, n, _, _, _, _ => by simp [szF, tF]
  | .int _ _, n, _, _, _, _ => by simp [szF, tF]
  | .unk, n, _, _, _, _ => by simp [szF, tF]
  | .nl _, n, _, _, _, _ => by simp [szF, tF]
theorem aS1 {z : Nat} : ∀ (l : List (aF false)) (n : Int), okL z l → 0 ≤ n → n ≤ cap → 0 ≤ szL l n → szL l n ≤ n ∧ (tL l : Int) ≤ n - szL l n
  | [], n, _, _, _, _ => by simp [szL, tL]
  | l :: r, n, ho, h0, hn, h => by
    simp only [okL] at ho
    simp only [szL, tL] at *
    by_cases hl : szF l n < 0
    · simp [hl] at h
    · simp only [hl, if_false] at h ⊢
      have h1 := aVR l n ho.1 h0 hn (by omega)
      have h2 := aS1 r _ ho.2 (by omega) (by omega) h
      omega
theorem aVS {z : Nat} : ∀ (l : List (List (aF false))) (n : Int), okE z l → 0 ≤ n → n ≤ cap → 0 ≤ szE l n → szE l n ≤ n ∧ (tE l : Int) ≤ n - szE l n
  | [], n, _, _, _, _ => by simp [szE, tE]
  | e :: r, n, ho, h0, hn, h => by
    simp only [okE] at ho
    simp only [szE, tE] at *
    by_cases hl : szL e n < 0
    · simp [hl] at h
    · simp only [hl, if_false] at h ⊢
      have h1 := aS1 e n ho.2.1 h0 hn (by omega)
      have h2 := aVS r _ ho.2.2 (by omega) (by omega) h
      omega
end
mutual
theorem aWH {z : Nat} : ∀ (l : aF false) (k : Int), okF z l → 0 ≤ k → k + 1 + z * tF l ≤ cap → k ≤ mkF l k ∧ mkF l k ≤ k + 1 + z * tF l
  | .str s, k, _, h0, hn => by simp only [mkF, tF, cap] at *; rw [rM (by omega) (by omega)]; omega
  | .bool s, k, _, h0, hn => by simp only [mkF, tF, cap] at *; rw [rM (by omega) (by omega)]; omega
  | .int _ s, k, _, h0, hn => by simp only [mkF, tF, cap] at *; rw [rM (by omega) (by omega)]; omega
  | .unk, k, _, h0, hn => by simp only [mkF, tF]; omega
  | .nl _, k, _, h0, hn => by simp only [mkF, tF]; omega
  | .sl _ es, k, ho, h0, hn => by
    simp only [okF] at ho
    simp only [mkF, tF] at *
    have e : (z : Int) * ((es.length + tE es : Nat) : Int) = z * es.length + z * tE es := by push_cast; rw [Int.mul_add]
    rw [e] at hn ⊢
    have := aT8 es k ho.2 h0 (by omega)
    omega
theorem aVW {z : Nat} : ∀ (l : List (aF false)) (k : Int), okL z l → 0 ≤ k → k + l.length + z * tL l ≤ cap → k ≤ mkL l k ∧ mkL l k ≤ k + l.length + z * tL l
  | [], k, _, _, _ => by simp [mkL, tL]
  | l :: r, k, ho, h0, hn => by
    simp only [okL] at ho
    have e : (z : Int) * ((tF l + tL r : Nat) : Int) = z * tF l + z * tL r := by push_cast; rw [Int.mul_add]
    have e2 : (((l :: r).length : Nat) : Int) = r.length + 1 := by simp
    rw [show tL (l :: r) = tF l + tL r by simp [tL], e, e2] at hn ⊢
    rw [show mkL (l :: r) k = mkL r (mkF l k) by simp [mkL]]
    have p1 : 0 ≤ (z : Int) * tF l := Int.mul_nonneg (by omega) (by omega)
    have p2 : 0 ≤ (z : Int) * tL r := Int.mul_nonneg (by omega) (by omega)
    have h1 := aWH l k ho.1 h0 (by omega)
    have h2 := aVW r (mkF l k) ho.2 (by omega) (by omega)
    omega
theorem aT8 {z : Nat} : ∀ (l : List (List (aF false))) (k : Int), okE z l → 0 ≤ k → k + z * l.length + z * tE l ≤ cap → k ≤ mkE l k ∧ mkE l k ≤ k + z * l.length + z * tE l
  | [], k, _, _, _ => by simp [mkE, tE]
  | e :: r, k, ho, h0, hn => by
    simp only [okE] at ho
    have e1 : (z : Int) * ((tL e + tE r : Nat) : Int) = z * tL e + z * tE r := by push_cast; rw [Int.mul_add]
    have e2 : (z : Int) * (((e :: r).length : Nat) : Int) = z * r.length + z := by rw [List.length_cons]; push_cast; rw [Int.mul_add, Int.mul_one]
    rw [show tE (e :: r) = tL e + tE r by simp [tE], e1, e2] at hn ⊢
    rw [show mkE (e :: r) k = mkE r (mkL e k) by simp [mkE]]
    have p1 : 0 ≤ (z : Int) * tL e := Int.mul_nonneg (by omega) (by omega)
    have p2 : 0 ≤ (z : Int) * tE r := Int.mul_nonneg (by omega) (by omega)
    have p3 : 0 ≤ (z : Int) * r.length := Int.mul_nonneg (by omega) (by omega)
    have h1 := aVW e k ho.2.1 h0 (by omega)
    have h2 := aT8 r (mkL e k) ho.2.2 (by omega) (by omega)
    omega
end
theorem bJ {m : Bool} {l : List (List (aF m))} {i : Nat} (h : i < l.length) : l.getD i [] = l[i] := by simp [List.getD, h]
theorem lN {α : Type} {l : List α} {i : Nat} (h : i < l.length) : l.drop i = l[i] :: l.drop (i + 1) := List.drop_eq_getElem_cons h
theorem aP {m : Bool} {z : Nat} {es : List (List (aF m))} (h : ∀ e ∈ es, e.length = z) : sized z es = true := by
  simp only [sized, List.all_eq_true, beq_iff_eq]; exact h
theorem mI {m m' : Bool} {φ : Fl m → Fl m'} {z : Nat} {es : List (List (aF m))} (h : ∀ e ∈ es, e.length = z) : ∀ e ∈ reE φ es, e.length = z := by
  intro e he
  rw [yP] at he
  obtain ⟨x, hx, rfl⟩ := List.mem_map.1 he
  rw [aEK]; exact h x hx
theorem aAh {m m' : Bool} {φ : Fl m → Fl m'} {es : List (List (aF m))} {i : Nat} (h : i < (reE φ es).length) : (reE φ es)[i] = reL φ (es[i]'(by rwa [cP] at h)) := by
  simp only [yP, List.getElem_map]
theorem yQ {m m' : Bool} {φ : Fl m → Fl m'} {es : List (List (aF m))} {i : Nat} (h : i < es.length) : (reE φ es).getD i [] = reL φ es[i] := by
  rw [bJ (by rwa [cP]), aAh (by rwa [cP])]
theorem aSG : ∀ l : List (aF false), soL l = l.map soF
  | [] => by rw [soL]; rfl
  | l :: r => by rw [soL, List.map_cons, aSG r]
theorem aM2 : ∀ l : List (List (aF false)), soE l = l.map soL
  | [] => by rw [soE]; rfl
  | l :: r => by rw [soE, List.map_cons, aM2 r]
theorem qX (l : List (List (aF false))) : (soE l).length = l.length := by rw [aM2, List.length_map]
theorem aBj {z : Nat} {es : List (List (aF false))} (h : ∀ e ∈ es, e.length = z) : ∀ e ∈ soE es, e.length = z := by
  intro e he
  rw [aM2] at he
  obtain ⟨x, hx, rfl⟩ := List.mem_map.1 he
  rw [aSG, List.length_map]; exact h x hx
theorem xR {es : List (List (aF false))} {i : Nat} (h : i < es.length) : (soE es).getD i [] = soL es[i] := by
  rw [aM2, List.getD_eq_getElem?_getD, List.getElem?_map, List.getElem?_eq_getElem h]; rfl
theorem oW {z : Nat} : ∀ {es : List (List (aF false))}, (∀ e ∈ es, e.length ≤ z ∧ okL z e) → okE z es
  | [], _ => by simp [okE]
  | e :: r, h => by
    simp only [okE]
    exact ⟨(h e (by simp)).1, (h e (by simp)).2, oW fun x hx => h x (by simp [hx])⟩
theorem aDa : ∀ {es : List (List (aF false))} {e : List (aF false)}, e ∈ es → tL e ≤ tE es
  | x :: r, e, h => by
    simp only [tE]
    rcases List.mem_cons.1 h with rfl | h
    · omega
    · have := aDa h; omega
def lZ (e : List (aF false)) : Prop := ∃ s : ByteArray, e = [.str s] ∧ s.size ≤ maxLen
theorem lZ.len {e : List (aF false)} (h : lZ e) : e.length = 1 := by obtain ⟨s, rfl, _⟩ := h; rfl
theorem lZ.ok {e : List (aF false)} (h : lZ e) : okL 16 e := by obtain ⟨s, rfl, hs⟩ := h; simp only [okL, okF]; exact ⟨hs, trivial⟩
theorem oK : Fl.isSoft jL = true := rfl
theorem aBn {α : Type} {p : Prop} [Decidable p] {a b : α} (h : p) : (if p then a else b) = a := if_pos h
end Go.Vs
namespace Go.Vs
variable {m : Bool}
theorem aO3 {v l1 l2 : List (SV m)} {p q : Nat} (hq : q = p + l1.length) (h : p + l1.length + l2.length ≤ v.length) : mC (mC v p l1) q l2 = mC v p (l1 ++ l2) := by
  subst hq
  unfold mC
  have h1 : (v.take p).length = p := by rw [List.length_take]; omega
  have e1 : (v.take p ++ l1 ++ v.drop (p + l1.length)).take (p + l1.length) = v.take p ++ l1 := by
    rw [List.take_append_of_le_length (by rw [List.length_append, h1]; omega), List.take_of_length_le (by rw [List.length_append, h1]; omega)]
  have e2 : (v.take p ++ l1 ++ v.drop (p + l1.length)).drop (p + l1.length + l2.length) = v.drop (p + (l1.length + l2.length)) := by
    rw [List.drop_append, List.drop_of_length_le (by rw [List.length_append, h1]; omega), List.nil_append, List.drop_drop, List.length_append, h1]
    congr 1; omega
  rw [e1, e2, List.length_append]
  simp only [List.append_assoc]
theorem aKu {v l : List (SV m)} {p : Nat} (h : p + l.length ≤ v.length) : (mC v p l).length = v.length := by
  unfold mC
  simp only [List.length_append, List.length_take, List.length_drop]
  omega
theorem aLY {α : Type} {z : Nat} : ∀ {l : List (List α)} {i o : Nat} (hl : ∀ e ∈ l, e.length = z) (hi : i < l.length) (ho : o < z), l.flatten[i * z + o]? = (l[i])[o]?
  | e :: l, 0, o, hl, hi, ho => by
    rw [List.flatten_cons, List.getElem?_append_left (by rw [hl e (by simp)]; omega)]
    simp
  | e :: l, i + 1, o, hl, hi, ho => by
    have he := hl e (by simp)
    rw [List.flatten_cons, List.getElem?_append_right (by rw [he, Nat.add_mul]; omega), he]
    have : (i + 1) * z + o - z = i * z + o := by rw [Nat.add_mul]; omega
    rw [this, List.getElem_cons_succ]
    exact aLY (fun e h => hl e (by simp [h])) (by simpa using hi) ho
theorem aUC {β : Type} {l : List (List (aF m))} {z : Nat} {r : List (SV m)} {i o p : Nat} (hl : ∀ e ∈ l, e.length = z) (hi : i < l.length) (ho : o < z) (hp : p = i * z + o) (k : SV m → Option β) :
    aI5 (hU l l.length r) p k = k (.leaf ((l[i])[o]'(by rw [hl _ (List.getElem_mem hi)]; exact ho))) := by
  subst hp
  have hlen : l.flatten.length = l.length * z := aAy hl
  have hm : i * z + o < l.flatten.length := by
    rw [hlen]
    have : (i + 1) * z ≤ l.length * z := Nat.mul_le_mul_right z hi
    rw [Nat.add_mul] at this; omega
  unfold aI5 hU
  rw [List.take_length, List.getElem?_append_left (by rw [List.length_map]; exact hm), List.getElem?_map, aLY hl hi ho, List.getElem?_eq_getElem (by rw [hl _ (List.getElem_mem hi)]; exact ho)]
  rfl
theorem aIk {l : List (List (aF m))} {i : Nat} {r : List (SV m)} (h : r.all SV.flat = true) : (hU l i r).all SV.flat = true := by
  unfold hU
  rw [List.all_append, h, Bool.and_true, List.all_map]
  exact List.all_eq_true.2 fun _ _ => rfl
end Go.Vs
namespace Go.Vs
def msL : List (aF false) → Int → Int
  | [], k => k
  | .sl _ es :: r, k => msL r (mkE es k)
  | .bool _ :: r, k => msL r k
  | .int _ _ :: r, k => msL r k
  | .str _ :: r, k => msL r k
  | .unk :: r, k => msL r k
  | .nl _ :: r, k => msL r k
theorem aNx {z : Nat} : ∀ (l : List (aF false)) (k : Int), okL z l → 0 ≤ k → k + z * tL l ≤ cap → k ≤ msL l k ∧ msL l k ≤ k + z * tL l
  | [], k, _, _, _ => by simp [msL, tL]
  | .sl c es :: r, k, ho, h0, hn => by
    simp only [okL, okF] at ho
    have e1 : (z : Int) * ((tL (.sl c es :: r) : Nat) : Int) = z * es.length + z * tE es + z * tL r := by
      rw [show tL (.sl c es :: r) = es.length + tE es + tL r by simp [tL, tF]]
      push_cast; rw [Int.mul_add, Int.mul_add]
    rw [e1] at hn ⊢
    rw [show msL (.sl c es :: r) k = msL r (mkE es k) by simp [msL]]
    have p1 : 0 ≤ (z : Int) * es.length := Int.mul_nonneg (by omega) (by omega)
    have p2 : 0 ≤ (z : Int) * tE es := Int.mul_nonneg (by omega) (by omega)
    have p3 : 0 ≤ (z : Int) * tL r := Int.mul_nonneg (by omega) (by omega)
    have h1 := aT8 es k ho.1.2 h0 (by omega)
    have h2 := aNx r (mkE es k) ho.2 (by omega) (by omega)
    omega
  | .bool b :: r, k, ho, h0, hn => by
    simp only [okL] at ho
    have e : tL (.bool b :: r) = tL r := by simp [tL, tF]
    rw [e] at hn ⊢
    exact aNx r k ho.2 h0 hn
  | .int kk b :: r, k, ho, h0, hn => by
    simp only [okL] at ho
    have e : tL (.int kk b :: r) = tL r := by simp [tL, tF]
    rw [e] at hn ⊢
    exact aNx r k ho.2 h0 hn
  | .str b :: r, k, ho, h0, hn => by
    simp only [okL] at ho
    have e : tL (.str b :: r) = tL r := by simp [tL, tF]
    rw [e] at hn ⊢
    exact aNx r k ho.2 h0 hn
  | .unk :: r, k, ho, h0, hn => by
    simp only [okL] at ho
    have e : tL (.unk :: r) = tL r := by simp [tL, tF]
    rw [e] at hn ⊢
    exact aNx r k ho.2 h0 hn
  | .nl b :: r, k, ho, h0, hn => by
    simp only [okL] at ho
    have e : tL (.nl b :: r) = tL r := by simp [tL, tF]
    rw [e] at hn ⊢
    exact aNx r k ho.2 h0 hn
end Go.Vs
end
section
open Go Go.Vs Go.Proofs
namespace Go.Vs
noncomputable abbrev atA {m : Bool} (D : cD m) (f : FuncId) (x : List Nat × St m) : Ret m := atF Tryz.prog D Hs f x.1 0 x.2
end Go.Vs
end
section
open Go Go.Vs Go.Proofs
set_option maxRecDepth 100000
set_option linter.unusedVariables false
namespace Go.Vs
def lH (c0_0 : Fl true) (e0_0 : LT) (c0_1 : Fl true) (e0_1 : LT) (c0_2 : Fl true) (e0_2 : LT) : St true := St.mk [.agg [.sl c0_0 e0_0,.sl c0_1 e0_1,.sl c0_2 e0_2],.any,.any,.any,.any,.any,.any,.any,.any,.any,.any,.any,.any,.any,.any,.any,.any,.any,.any,.any,.any,.any,.any,.any,.any,.any,.any,.any,.any,.any,.any,.any,.any,.any,.any,.any,.any,.any,.any,.any,.any,.any,.any,.any,.any,.any,.any,.any,.any,.any,.any,.any,.any,.any,.any,.any,.any,.any,.any,.any,.any,.any,.any,.any,.any,.any,.any,.any,.any] [none,none,none,none,none,none,none,none,none,none,none,none,none,none,none,none,none,none,none,none,none,none,none,none,none,none,none,none,none,none,none,none,none,none,none,none,none,none,none,none,none,none,none,none,none,none,none,none,none,none,none,none,none,none,none,none,none,none,none,none,none,none,none,none,none,none,none,none,none]
theorem qN (D : cD true) (J : PT → Ret true) (c0_0 : Fl true) (e0_0 : LT) (c0_1 : Fl true) (e0_1 : LT) (c0_2 : Fl true) (e0_2 : LT) : aB6 Tryz.prog D Hs F.aXq [way 5] 0 J (way 0,lH c0_0 e0_0 c0_1 e0_1 c0_2 e0_2) = (D F.aYC [.agg [.sl c0_0 e0_0,.sl c0_1 e0_1,.sl c0_2 e0_2],.leaf (.int .i64 1048576)] []).bind fun r => aS r.fst fun l => eF .i64 l fun n => aA (decide (n < 0)) (some (.leaf (.bool true),[])) ((D F.aYE [.agg [.sl c0_0 e0_0,.sl c0_1 e0_1,.sl c0_2 e0_2]] []).bind fun r => gK r.fst fun cs => aB (cs.length == 3) (atK cs 0 fun l => slK l fun c es => atK cs 1 fun l => slK l fun c_1 es_1 => atK cs 2 fun l => slK l fun c_2 es_2 => (D F.aXw [.agg [.sl c es,.sl c_1 es_1,.sl c_2 es_2]] []).bind fun r => rK T.aY2 r.fst fun es => J (way 5,St.mk [.any,.ptr 1 0,.any,.any,.own (some T.aY2) es,.any,.any,.any,.any,.any,.any,.any,.any,.any,.any,.any,.any,.any,.any,.any,.any,.any,.any,.any,.any,.any,.any,.any,.any,.any,.any,.any,.any,.any,.any,.any,.any,.any,.any,.any,.any,.any,.any,.any,.any,.any,.any,.any,.any,.any,.any,.any,.any,.any,.any,.any,.any,.any,.any,.any,.any,.any,.any,.any,.any,.any,.any,.any,.any] [none,some [.leaf (.sl c0_0 e0_0),.leaf (.sl c0_1 e0_1),.leaf (.sl c0_2 e0_2)],none,none,none,none,none,none,none,none,none,none,none,none,none,none,none,none,none,none,none,none,none,none,none,none,none,none,none,none,none,none,none,none,none,none,none,none,none,none,none,none,none,none,none,none,none,none,none,none,none,none,none,none,none,none,none,none,none,none,none,none,none,none,none,none,none,none,none]))) := by revert J; refine id ?_; intro J; kernel_rfl
def dZ (c1 c1_0 : Fl true) (e1_0 : LT) (c1_1 : Fl true) (e1_1 : LT) (c1_2 : Fl true) (e1_2 : LT) (c4 : Fl true) (e4 : LT) : St true := St.mk [.any,.eptr c1 [.sl c1_0 e1_0,.sl c1_1 e1_1,.sl c1_2 e1_2] 0,.any,.any,.leaf (.sl c4 e4),.any,.any,.any,.any,.any,.any,.any,.any,.any,.any,.any,.any,.any,.any,.any,.any,.any,.any,.any,.any,.any,.any,.any,.any,.any,.any,.any,.any,.any,.any,.any,.any,.any,.any,.any,.any,.any,.any,.any,.any,.any,.any,.any,.any,.any,.any,.any,.any,.any,.any,.any,.any,.any,.any,.any,.any,.any,.any,.any,.any,.any,.any,.any,.any] [none,none,none,none,none,none,none,none,none,none,none,none,none,none,none,none,none,none,none,none,none,none,none,none,none,none,none,none,none,none,none,none,none,none,none,none,none,none,none,none,none,none,none,none,none,none,none,none,none,none,none,none,none,none,none,none,none,none,none,none,none,none,none,none,none,none,none,none,none]
theorem aAx (D : cD true) (J : PT → Ret true) (c1 : Fl true) (c1_0 : Fl true) (e1_0 : LT) (c1_1 : Fl true) (e1_1 : LT) (c1_2 : Fl true) (e1_2 : LT) (c4 : Fl true) (e4 : LT) : aB6 Tryz.prog D Hs F.aXq [way 6] 0 J (way 5,dZ c1 c1_0 e1_0 c1_1 e1_1 c1_2 e1_2 c4 e4) = (D F.aYE [.agg [.sl c1_0 e1_0,.sl c1_1 e1_1,.sl c1_2 e1_2]] []).bind fun r => gK r.fst fun cs => aB (cs.length == 3) (atK cs 0 fun l => slK l fun c es => atK cs 1 fun l => slK l fun c_1 es_1 => atK cs 2 fun l => slK l fun c_2 es_2 => J (way 6,St.mk [.any,.eptr c1 [.sl c1_0 e1_0,.sl c1_1 e1_1,.sl c1_2 e1_2] 0,.any,.any,.leaf (.sl c4 e4),.ptr 5 0,.any,.any,.any,.any,.any,.any,.any,.any,.any,.any,.any,.any,.any,.any,.any,.any,.any,.any,.any,.any,.any,.any,.any,.any,.any,.any,.any,.any,.any,.any,.any,.any,.any,.any,.any,.any,.any,.any,.any,.any,.any,.any,.any,.any,.any,.any,.any,.any,.any,.any,.any,.any,.any,.any,.any,.any,.any,.any,.any,.any,.any,.any,.any] [none,none,none,none,none,some [.leaf (.sl c es),.leaf (.sl c_1 es_1),.leaf (.sl c_2 es_2)],none,none,none,none,none,none,none,none,none,none,none,none,none,none,none,none,none,none,none,none,none,none,none,none,none,none,none,none,none,none,none,none,none,none,none,none,none,none,none,none,none,none,none,none,none,none,none,none,none,none,none,none,none,none,none,none,none,none,none,none,none,none,none])) := by revert J; refine id ?_; intro J; kernel_rfl
def cG (c1 c1_0 : Fl true) (e1_0 : LT) (c1_1 : Fl true) (e1_1 : LT) (c1_2 : Fl true) (e1_2 : LT) (c4 : Fl true) (e4 : LT) (c5 c5_0 : Fl true) (e5_0 : LT) (c5_1 : Fl true) (e5_1 : LT) (c5_2 : Fl true) (e5_2 : LT) : St true := St.mk [.any,.eptr c1 [.sl c1_0 e1_0,.sl c1_1 e1_1,.sl c1_2 e1_2] 0,.any,.any,.leaf (.sl c4 e4),.eptr c5 [.sl c5_0 e5_0,.sl c5_1 e5_1,.sl c5_2 e5_2] 0,.any,.any,.any,.any,.any,.any,.any,.any,.any,.any,.any,.any,.any,.any,.any,.any,.any,.any,.any,.any,.any,.any,.any,.any,.any,.any,.any,.any,.any,.any,.any,.any,.any,.any,.any,.any,.any,.any,.any,.any,.any,.any,.any,.any,.any,.any,.any,.any,.any,.any,.any,.any,.any,.any,.any,.any,.any,.any,.any,.any,.any,.any,.any] [none,none,none,none,none,none,none,none,none,none,none,none,none,none,none,none,none,none,none,none,none,none,none,none,none,none,none,none,none,none,none,none,none,none,none,none,none,none,none,none,none,none,none,none,none,none,none,none,none,none,none,none,none,none,none,none,none,none,none,none,none,none,none,none,none,none,none,none,none]
theorem aAz (D : cD true) (J : PT → Ret true) (c1 : Fl true) (c1_0 : Fl true) (e1_0 : LT) (c1_1 : Fl true) (e1_1 : LT) (c1_2 : Fl true) (e1_2 : LT) (c4 : Fl true) (e4 : LT) (c5 : Fl true) (c5_0 : Fl true) (e5_0 : LT) (c5_1 : Fl true) (e5_1 : LT) (c5_2 : Fl true) (e5_2 : LT) : aB6 Tryz.prog D Hs F.aXq [way 9] 0 J (way 6,cG c1 c1_0 e1_0 c1_1 e1_1 c1_2 e1_2 c4 e4 c5 c5_0 e5_0 c5_1 e5_1 c5_2 e5_2) = (D F.aXx [.agg [.sl c5_0 e5_0,.sl c5_1 e5_1,.sl c5_2 e5_2]] []).bind fun r => rK T.aY2 r.fst fun es => (D F.aX3 [.leaf (.sl bA es),.leaf (.sl c4 e4)] []).bind fun r => aS r.fst fun l => eR l fun b => aA (!b) (some (.leaf (.bool false),[])) ((D F.aYE [.agg [.sl c1_0 e1_0,.sl c1_1 e1_1,.sl c1_2 e1_2]] []).bind fun r => gK r.fst fun cs => aB (cs.length == 3) (atK cs 0 fun l => slK l fun c es_1 => atK cs 1 fun l => slK l fun c_1 es_2 => atK cs 2 fun l => slK l fun c_2 es_3 => (D F.aYD [.agg [.sl c5_0 e5_0,.sl c5_1 e5_1,.sl c5_2 e5_2],.agg [.sl c es_1,.sl c_1 es_2,.sl c_2 es_3]] []).bind fun r => aS r.fst fun l => eR l fun b => aA (!b) (some (.leaf (.bool false),[])) (J (way 9,St.mk [.any,.eptr c1 [.sl c1_0 e1_0,.sl c1_1 e1_1,.sl c1_2 e1_2] 0,.any,.any,.leaf (.sl c4 e4),.eptr c5 [.sl c5_0 e5_0,.sl c5_1 e5_1,.sl c5_2 e5_2] 0,.own (some T.aY2) es,.any,.any,.any,.any,.any,.any,.any,.any,.any,.any,.any,.any,.any,.any,.any,.any,.any,.any,.any,.any,.any,.any,.any,.any,.any,.any,.any,.any,.any,.any,.any,.any,.any,.any,.any,.any,.any,.any,.any,.any,.any,.any,.any,.any,.any,.any,.any,.any,.any,.any,.any,.any,.any,.any,.any,.any,.any,.any,.any,.any,.any,.any] [none,none,none,none,none,none,none,none,none,none,none,none,none,none,none,none,none,none,none,none,none,none,none,none,none,none,none,none,none,none,none,none,none,none,none,none,none,none,none,none,none,none,none,none,none,none,none,none,none,none,none,none,none,none,none,none,none,none,none,none,none,none,none,none,none,none,none,none,none])))) := by revert J; refine id ?_; intro J; kernel_rfl
def cF (c1 c1_0 : Fl true) (e1_0 : LT) (c1_1 : Fl true) (e1_1 : LT) (c1_2 : Fl true) (e1_2 : LT) (c4 : Fl true) (e4 : LT) (c5 c5_0 : Fl true) (e5_0 : LT) (c5_1 : Fl true) (e5_1 : LT) (c5_2 : Fl true) (e5_2 : LT) (c6 : Fl true) (e6 : LT) : St true := St.mk [.any,.eptr c1 [.sl c1_0 e1_0,.sl c1_1 e1_1,.sl c1_2 e1_2] 0,.any,.any,.leaf (.sl c4 e4),.eptr c5 [.sl c5_0 e5_0,.sl c5_1 e5_1,.sl c5_2 e5_2] 0,.leaf (.sl c6 e6),.any,.any,.any,.any,.any,.any,.any,.any,.any,.any,.any,.any,.any,.any,.any,.any,.any,.any,.any,.any,.any,.any,.any,.any,.any,.any,.any,.any,.any,.any,.any,.any,.any,.any,.any,.any,.any,.any,.any,.any,.any,.any,.any,.any,.any,.any,.any,.any,.any,.any,.any,.any,.any,.any,.any,.any,.any,.any,.any,.any,.any,.any] [none,none,none,none,none,none,none,none,none,none,none,none,none,none,none,none,none,none,none,none,none,none,none,none,none,none,none,none,none,none,none,none,none,none,none,none,none,none,none,none,none,none,none,none,none,none,none,none,none,none,none,none,none,none,none,none,none,none,none,none,none,none,none,none,none,none,none,none,none]
theorem aAq (D : cD true) (J : PT → Ret true) (c1 : Fl true) (c1_0 : Fl true) (e1_0 : LT) (c1_1 : Fl true) (e1_1 : LT) (c1_2 : Fl true) (e1_2 : LT) (c4 : Fl true) (e4 : LT) (c5 : Fl true) (c5_0 : Fl true) (e5_0 : LT) (c5_1 : Fl true) (e5_1 : LT) (c5_2 : Fl true) (e5_2 : LT) (c6 : Fl true) (e6 : LT) : aB6 Tryz.prog D Hs F.aXq [way 12] 0 J (way 9,cF c1 c1_0 e1_0 c1_1 e1_1 c1_2 e1_2 c4 e4 c5 c5_0 e5_0 c5_1 e5_1 c5_2 e5_2 c6 e6) = (D F.aX0 [.agg [.sl c5_0 e5_0,.sl c5_1 e5_1,.sl c5_2 e5_2],.leaf (.int .i64 1)] []).bind fun r => oF r.snd (aS r.fst fun l => eF .i64 l fun n => aA (decide (n < 0) == false) ((D F.aX3 [.leaf (.sl c6 e6),.leaf (.sl c4 e4)] []).bind fun r => aS r.fst fun l => eR l fun b => aA (!b) (some (.leaf (.bool false),[])) (J (way 12,St.mk [.any,.eptr c1 [.sl c1_0 e1_0,.sl c1_1 e1_1,.sl c1_2 e1_2] 0,.any,.any,.leaf (.sl c4 e4),.any,.leaf (.sl c6 e6),.any,.any,.any,.any,.any,.any,.any,.any,.any,.any,.any,.any,.any,.any,.any,.any,.any,.any,.any,.any,.any,.any,.any,.any,.any,.any,.any,.any,.any,.any,.any,.any,.any,.any,.any,.any,.any,.any,.any,.any,.any,.any,.any,.any,.any,.any,.any,.any,.any,.any,.any,.any,.any,.any,.any,.any,.any,.any,.any,.any,.any,.any] [none,none,none,none,none,none,none,none,none,none,none,none,none,none,none,none,none,none,none,none,none,none,none,none,none,none,none,none,none,none,none,none,none,none,none,none,none,none,none,none,none,none,none,none,none,none,none,none,none,none,none,none,none,none,none,none,none,none,none,none,none,none,none,none,none,none,none,none,none]))) (some (.leaf (.bool false),[]))) := by revert J; refine id ?_; intro J; kernel_rfl
def dY (c1 c1_0 : Fl true) (e1_0 : LT) (c1_1 : Fl true) (e1_1 : LT) (c1_2 : Fl true) (e1_2 : LT) (c4 : Fl true) (e4 : LT) (c6 : Fl true) (e6 : LT) : St true := St.mk [.any,.eptr c1 [.sl c1_0 e1_0,.sl c1_1 e1_1,.sl c1_2 e1_2] 0,.any,.any,.leaf (.sl c4 e4),.any,.leaf (.sl c6 e6),.any,.any,.any,.any,.any,.any,.any,.any,.any,.any,.any,.any,.any,.any,.any,.any,.any,.any,.any,.any,.any,.any,.any,.any,.any,.any,.any,.any,.any,.any,.any,.any,.any,.any,.any,.any,.any,.any,.any,.any,.any,.any,.any,.any,.any,.any,.any,.any,.any,.any,.any,.any,.any,.any,.any,.any,.any,.any,.any,.any,.any,.any] [none,none,none,none,none,none,none,none,none,none,none,none,none,none,none,none,none,none,none,none,none,none,none,none,none,none,none,none,none,none,none,none,none,none,none,none,none,none,none,none,none,none,none,none,none,none,none,none,none,none,none,none,none,none,none,none,none,none,none,none,none,none,none,none,none,none,none,none,none]
theorem aAw (D : cD true) (J : PT → Ret true) (c1 : Fl true) (c1_0 : Fl true) (e1_0 : LT) (c1_1 : Fl true) (e1_1 : LT) (c1_2 : Fl true) (e1_2 : LT) (c4 : Fl true) (e4 : LT) (c6 : Fl true) (e6 : LT) : aB6 Tryz.prog D Hs F.aXq [] 0 J (way 12,dY c1 c1_0 e1_0 c1_1 e1_1 c1_2 e1_2 c4 e4 c6 e6) = (D F.aXG [.leaf (.sl c6 e6),.leaf (.int .i64 1)] []).bind fun r => oF r.snd (aS r.fst fun l => eF .i64 l fun n => (D F.aXM [.leaf (.sl c6 e6),.leaf (.int .i64 1)] []).bind fun r => oF r.snd (aS r.fst fun l => eF .i64 l fun n_1 => aA (decide (n_1 < 0)) (some (.leaf (.bool false),[])) (aA (n_1 != n) (some (.leaf (.bool false),[])) ((D F.aYE [.agg [.sl c1_0 e1_0,.sl c1_1 e1_1,.sl c1_2 e1_2]] []).bind fun r => gK r.fst fun cs => aB (cs.length == 3) (atK cs 0 fun l => slK l fun c es => atK cs 1 fun l => slK l fun c_1 es_1 => atK cs 2 fun l => slK l fun c_2 es_2 => (D F.aXx [.agg [.sl c es,.sl c_1 es_1,.sl c_2 es_2]] []).bind fun r => rK T.aY2 r.fst fun es => (D F.aX3 [.leaf (.sl bA es),.leaf (.sl c4 e4)] []).bind fun r => aS r.fst fun l => eR l fun b => aA (!b) (some (.leaf (.bool false),[])) ((D F.aXM [.leaf (.sl c6 e6),.leaf (.int .i64 1)] []).bind fun r => oF r.snd (aS r.fst fun l => eF .i64 l fun n_2 => aA (decide (n_2 < 0)) (some (.leaf (.bool false),[])) (aA (n_2 != n) (some (.leaf (.bool false),[])) (some (.leaf (.bool true),[])))))))))) := by revert J; refine id ?_; intro J; kernel_rfl
def qD (c1 c1_0 : Fl true) (e1_0 : LT) (c1_1 : Fl true) (e1_1 : LT) (c1_2 : Fl true) (e1_2 : LT) (c4 : Fl true) (e4 : LT) (n6 : Nat) (vx6 : List (SV true)) : St true := St.mk [.any,.eptr c1 [.sl c1_0 e1_0,.sl c1_1 e1_1,.sl c1_2 e1_2] 0,.any,.any,.leaf (.sl c4 e4),.any,.bsl 6 3 0 n6,.any,.any,.any,.any,.any,.any,.any,.any,.any,.any,.any,.any,.any,.any,.any,.any,.any,.any,.any,.any,.any,.any,.any,.any,.any,.any,.any,.any,.any,.any,.any,.any,.any,.any,.any,.any,.any,.any,.any,.any,.any,.any,.any,.any,.any,.any,.any,.any,.any,.any,.any,.any,.any,.any,.any,.any,.any,.any,.any,.any,.any,.any] [none,none,none,none,none,none,some vx6,none,none,none,none,none,none,none,none,none,none,none,none,none,none,none,none,none,none,none,none,none,none,none,none,none,none,none,none,none,none,none,none,none,none,none,none,none,none,none,none,none,none,none,none,none,none,none,none,none,none,none,none,none,none,none,none,none,none,none,none,none,none]
theorem zQ (D : cD true) (J : PT → Ret true) (c1 : Fl true) (c1_0 : Fl true) (e1_0 : LT) (c1_1 : Fl true) (e1_1 : LT) (c1_2 : Fl true) (e1_2 : LT) (c4 : Fl true) (e4 : LT) (n6 : Nat) (vx6 : List (SV true)) : aB6 Tryz.prog D Hs F.aXq [] 0 J (way 12,qD c1 c1_0 e1_0 c1_1 e1_1 c1_2 e1_2 c4 e4 n6 vx6) = aB ([vx6].all fun x => x.all SV.flat) ((D F.aXG [.bsl 0 3 0 n6,.leaf (.int .i64 1)] [vx6]).bind fun r => sW r.snd fun d r_1 => oF r_1 (aS r.fst fun l => eF .i64 l fun n => aB ([d].all fun x => x.all SV.flat) ((D F.aXM [.bsl 0 3 0 n6,.leaf (.int .i64 1)] [d]).bind fun r => sW r.snd fun d r_2 => oF r_2 (aS r.fst fun l => eF .i64 l fun n_1 => aA (decide (n_1 < 0)) (some (.leaf (.bool false),[])) (aA (n_1 != n) (some (.leaf (.bool false),[])) ((D F.aYE [.agg [.sl c1_0 e1_0,.sl c1_1 e1_1,.sl c1_2 e1_2]] []).bind fun r => gK r.fst fun cs => aB (cs.length == 3) (atK cs 0 fun l => slK l fun c es => atK cs 1 fun l => slK l fun c_1 es_1 => atK cs 2 fun l => slK l fun c_2 es_2 => (D F.aXx [.agg [.sl c es,.sl c_1 es_1,.sl c_2 es_2]] []).bind fun r => rK T.aY2 r.fst fun es => (D F.aX3 [.leaf (.sl bA es),.leaf (.sl c4 e4)] []).bind fun r => aS r.fst fun l => eR l fun b => aA (!b) (some (.leaf (.bool false),[])) (aB ([d].all fun x => x.all SV.flat) ((D F.aXM [.bsl 0 3 0 n6,.leaf (.int .i64 1)] [d]).bind fun r => sW r.snd fun d r_3 => oF r_3 (aS r.fst fun l => eF .i64 l fun n_2 => aA (decide (n_2 < 0)) (some (.leaf (.bool false),[])) (aA (n_2 != n) (some (.leaf (.bool false),[])) (some (.leaf (.bool true),[]))))))))))))) := by revert J; refine id ?_; intro J; kernel_rfl
end Go.Vs
end
section
set_option linter.unusedVariables false
namespace Go.Vs
def key (e : El) : List UInt8 := (bM e 0).toList
theorem leT {a b c : List UInt8} (h : a ≤ b) (k : b ≤ c) : a ≤ c := List.le_trans h k
theorem leR (a : List UInt8) : a ≤ a := List.le_refl a
theorem leN {a b : List UInt8} (h : ¬ a ≤ b) : b ≤ a := (List.le_total a b).resolve_left h
theorem leA {a b : List UInt8} (h : a ≤ b) (k : b ≤ a) : a = b := List.le_antisymm h k
theorem ltI {a b : List UInt8} : ¬ a < b ↔ b ≤ a := List.not_lt
def aF2 (l : List El) : Prop := l.Pairwise fun a b => key a ≤ key b
def aHk (out : List El) (x : El) : List El := if (out.getLast?.map key) = some (key x) then out else out ++ [x]
theorem aJC {out : List El} {x : El} {s : List UInt8} : (∃ e ∈ aHk out x, key e = s) ↔ (∃ e ∈ out, key e = s) ∨ key x = s := by
  unfold aHk
  split
  · rename_i h
    rw [Option.map_eq_some_iff] at h
    obtain ⟨l, hl, hk⟩ := h
    constructor
    · exact .inl
    · rintro (h | h)
      · exact h
      · exact ⟨l, List.mem_of_getLast? hl, hk.trans h⟩
  · constructor
    · rintro ⟨e, he, hs⟩
      rcases List.mem_append.1 he with he | he
      · exact .inl ⟨e, he, hs⟩
      · rw [List.mem_singleton.1 he] at hs; exact .inr hs
    · rintro (⟨e, he, hs⟩ | h)
      · exact ⟨e, List.mem_append_left _ he, hs⟩
      · exact ⟨x, by simp, h⟩
theorem uV {out : List El} {x e : El} (h : e ∈ aHk out x) : e ∈ out ∨ e = x := by
  unfold aHk at h
  split at h
  · exact .inl h
  · rcases List.mem_append.1 h with h | h
    · exact .inl h
    · exact .inr (List.mem_singleton.1 h)
theorem aJ6 (out : List El) (x : El) : (aHk out x).length ≤ out.length + 1 := by unfold aHk; split <;> simp
theorem aCI {out : List El} {x : El} (h : aF2 out) (hx : ∀ o ∈ out, key o ≤ key x) : aF2 (aHk out x) := by
  unfold aHk
  split
  · exact h
  · exact List.pairwise_append.2 ⟨h, by simp, fun a ha b hb => by rw [List.mem_singleton.1 hb]; exact hx a ha⟩
def fin (xs ys out : List El) : List El := match xs, ys with
  | [], [] => out
  | x :: xs, [] => fin xs [] (aHk out x)
  | [], y :: ys => fin [] ys (aHk out y)
  | x :: xs, y :: ys => if key x ≤ key y then fin xs (y :: ys) (aHk out x) else fin (x :: xs) ys (aHk out y)
termination_by xs.length + ys.length
structure aWT (xs ys out r : List El) : Prop where
  up : aF2 r
  mem : ∀ s, (∃ e ∈ r, key e = s) ↔ (∃ e ∈ out, key e = s) ∨ (∃ e ∈ xs, key e = s) ∨ ∃ e ∈ ys, key e = s
  len : r.length ≤ out.length + xs.length + ys.length
  sub : ∀ e ∈ r, e ∈ out ∨ e ∈ xs ∨ e ∈ ys
theorem aWw : ∀ (n : Nat) (xs ys out : List El), xs.length + ys.length = n → aF2 xs → aF2 ys → aF2 out → (∀ o ∈ out, ∀ x ∈ xs, key o ≤ key x) → (∀ o ∈ out, ∀ y ∈ ys, key o ≤ key y) → aWT xs ys out (fin xs ys out) := by
  intro n
  induction n using Nat.strongRecOn with
  | ind n ih =>
    intro xs ys out hn hx hy ho h1 h2
    match xs, ys with
    | [], [] => unfold fin; exact ⟨ho, fun s => by simp, by simp, fun e he => .inl he⟩
    | x :: xs, [] =>
      unfold fin
      have hx' := List.pairwise_cons.1 hx
      have j := ih (xs.length + 0) (by simp at hn; omega) xs [] (aHk out x) rfl hx'.2 hy (aCI ho fun o h => h1 o h x (by simp)) (fun o h z hz => by
        rcases uV h with h | rfl
        · exact h1 o h z (by simp [hz])
        · exact hx'.1 z hz) (fun o h z hz => by simp at hz)
      refine ⟨j.up, fun s => ?_, by have := j.len; have := aJ6 out x; simp at *; omega, fun e he => ?_⟩
      · rw [j.mem, aJC]; simp [or_assoc]
      · rcases j.sub e he with h | h | h
        · rcases uV h with h | rfl
          · exact .inl h
          · exact .inr (.inl (by simp))
        · exact .inr (.inl (by simp [h]))
        · simp at h
    | [], y :: ys =>
      unfold fin
      have hy' := List.pairwise_cons.1 hy
      have j := ih (0 + ys.length) (by simp at hn; omega) [] ys (aHk out y) rfl hx hy'.2 (aCI ho fun o h => h2 o h y (by simp)) (fun o h z hz => by simp at hz) (fun o h z hz => by
        rcases uV h with h | rfl
        · exact h2 o h z (by simp [hz])
        · exact hy'.1 z hz)
      refine ⟨j.up, fun s => ?_, by have := j.len; have := aJ6 out y; simp at *; omega, fun e he => ?_⟩
      · rw [j.mem, aJC]; simp [or_assoc]
      · rcases j.sub e he with h | h | h
        · rcases uV h with h | rfl
          · exact .inl h
          · exact .inr (.inr (by simp))
        · simp at h
        · exact .inr (.inr (by simp [h]))
    | x :: xs, y :: ys =>
      have hx' := List.pairwise_cons.1 hx
      have hy' := List.pairwise_cons.1 hy
      unfold fin
      by_cases hc : key x ≤ key y
      · rw [if_pos hc]
        have j := ih (xs.length + (y :: ys).length) (by simp at hn ⊢; omega) xs (y :: ys) (aHk out x) rfl hx'.2 hy (aCI ho fun o h => h1 o h x (by simp)) (fun o h z hz => by
          rcases uV h with h | rfl
          · exact h1 o h z (by simp [hz])
          · exact hx'.1 z hz) (fun o h z hz => by
          rcases uV h with h | rfl
          · exact h2 o h z hz
          · rcases List.mem_cons.1 hz with rfl | hz
            · exact hc
            · exact leT hc (hy'.1 z hz))
        refine ⟨j.up, fun s => ?_, by have := j.len; have := aJ6 out x; simp at *; omega, fun e he => ?_⟩
        · rw [j.mem, aJC]; simp [or_assoc]
        · rcases j.sub e he with h | h | h
          · rcases uV h with h | rfl
            · exact .inl h
            · exact .inr (.inl (by simp))
          · exact .inr (.inl (by simp [h]))
          · exact .inr (.inr h)
      · rw [if_neg hc]
        have hc' := leN hc
        have j := ih ((x :: xs).length + ys.length) (by simp at hn ⊢; omega) (x :: xs) ys (aHk out y) rfl hx hy'.2 (aCI ho fun o h => h2 o h y (by simp)) (fun o h z hz => by
          rcases uV h with h | rfl
          · exact h1 o h z hz
          · rcases List.mem_cons.1 hz with rfl | hz
            · exact hc'
            · exact leT hc' (hx'.1 z hz)) (fun o h z hz => by
          rcases uV h with h | rfl
          · exact h2 o h z (by simp [hz])
          · exact hy'.1 z hz)
        refine ⟨j.up, fun s => ?_, by have := j.len; have := aJ6 out y; simp at *; omega, fun e he => ?_⟩
        · rw [j.mem, aJC]
          simp only [List.mem_cons, exists_eq_or_imp]
          constructor
          · rintro ((h | h) | h | h) <;> simp [h]
          · rintro (h | (h | h) | h | h) <;> simp [h]
        · rcases j.sub e he with h | h | h
          · rcases uV h with h | rfl
            · exact .inl h
            · exact .inr (.inr (by simp))
          · exact .inr (.inl h)
          · exact .inr (.inr (by simp [h]))
theorem aW5 {l : List El} (hr : aF2 l) {s : List UInt8} {lo : Nat} (hlo : ∀ (j : Nat) (h : j < l.length), j < lo → key l[j] < s) (hhi : ∀ (j : Nat) (h : j < l.length), lo ≤ j → s ≤ key l[j]) :
    (∃ e ∈ l, key e = s) ↔ ∃ h : lo < l.length, key l[lo] = s := by
  constructor
  · rintro ⟨e, he, hs⟩
    obtain ⟨j, hj, rfl⟩ := List.getElem_of_mem he
    have hjl : lo ≤ j := by
      rcases Nat.lt_or_ge j lo with h | h
      · have := hlo j hj h
        rw [hs] at this
        exact absurd this (ltI.2 (leR s))
      · exact h
    have hlt : lo < l.length := Nat.lt_of_le_of_lt hjl hj
    refine ⟨hlt, leA ?_ (hhi lo hlt (Nat.le_refl _))⟩
    rw [← hs]
    rcases Nat.eq_or_lt_of_le hjl with h | h
    · subst h; exact leR _
    · exact (List.pairwise_iff_getElem.1 hr) lo j hlt hj h
  · rintro ⟨h, hs⟩; exact ⟨l[lo], List.getElem_mem h, hs⟩
theorem aWv {l : List El} (hr : aF2 l) {i j : Nat} (h : i ≤ j) (hj : j < l.length) : key l[i] ≤ key l[j] := by
  rcases Nat.eq_or_lt_of_le h with h | h
  · subst h; exact leR _
  · exact (List.pairwise_iff_getElem.1 hr) i j (by omega) hj h
end Go.Vs
end
section
set_option linter.unusedVariables false
namespace Go.Vs
abbrev nul : ByteArray := ByteArray.mk #[]
abbrev dot : ByteArray := ByteArray.mk #[46]
def aTF : aF false → Bool | .sl _ _ => false | .nl _ => false | _ => true
theorem aUu {φ ψ : Fl false → Fl true} {l : aF false} (h : aTF l = true) : reF φ l = reF ψ l := by cases l <;> first | rfl | simp [aTF] at h
theorem aUe {φ ψ : Fl false → Fl true} {l : List El} (h : ∀ e ∈ l, e.all aTF = true) : reE φ l = reE ψ l := by
  rw [yP, yP]
  refine List.map_congr_left fun e he => ?_
  rw [zS, zS]
  exact List.map_congr_left fun x hx => aUu (List.all_eq_true.1 (h e he) x hx)
def iK (p : El → Bool) : Int → List El → Int
  | _, [] => -1
  | i, e :: es => if p e = true then i else iK p (i + 1) es
theorem aM6 (p : El → Bool) : ∀ (es : List El) (i : Int), 0 ≤ i → iK p i es = -1 ∨ (i ≤ iK p i es ∧ iK p i es < i + es.length)
  | [], i, h => .inl rfl
  | e :: es, i, h => by
    unfold iK
    split
    · right; simp; omega
    · rcases aM6 p es (i + 1) (by omega) with h1 | h1
      · exact .inl h1
      · right; simp only [List.length_cons]; push_cast; omega
theorem aSJ (p : El → Bool) : ∀ (es : List El) (i j : Nat), iK p (i : Int) es = (j : Int) → ∃ h : j - i < es.length, i ≤ j ∧ p es[j - i] = true
  | [], i, j, h => by simp [iK] at h
  | e :: es, i, j, h => by
    unfold iK at h
    split at h
    · rename_i hp
      have : i = j := by omega
      subst this
      refine ⟨by simp, Nat.le_refl _, ?_⟩
      simp only [Nat.sub_self, List.getElem_cons_zero]; exact hp
    · obtain ⟨h1, h2, h3⟩ := aSJ p es (i + 1) j (by push_cast; exact h)
      have hj : j - i = (j - (i + 1)) + 1 := by omega
      refine ⟨by simp; omega, by omega, ?_⟩
      simp only [hj, List.getElem_cons_succ]
      exact h3
theorem yK {p : El → Bool} {es : List El} (h : ¬ iK p 0 es < 0) : ∃ (j : Nat) (hj : j < es.length), iK p 0 es = (j : Int) ∧ p es[j] = true := by
  rcases aM6 p es 0 (by omega) with h1 | ⟨h1, h2⟩
  · omega
  · obtain ⟨j, hj⟩ : ∃ j : Nat, iK p 0 es = (j : Int) := ⟨(iK p 0 es).toNat, by omega⟩
    obtain ⟨a, _, b⟩ := aSJ p es 0 j hj
    exact ⟨j, by simpa using a, hj, by simpa using b⟩
theorem oB (p : El → Bool) : ∀ (es : List El) (i : Int), 0 ≤ i → decide (iK p i es ≥ 0) = es.any p
  | [], i, h => by simp [iK]
  | e :: es, i, h => by
    unfold iK
    cases hp : p e with
    | true => simp [hp]; omega
    | false => simpa [hp] using oB p es (i + 1) (by omega)
theorem aWK (p : El → Bool) (es : List El) : decide (iK p 0 es < 0) = !es.any p := by
  have := oB p es 0 (by omega)
  rw [← this]
  by_cases h : iK p 0 es < 0
  · simp [h]
  · simp [h]; omega
theorem aRS {p q : El → Bool} : ∀ {es : List El} {i : Int}, (∀ e ∈ es, p e = q e) → iK p i es = iK q i es
  | [], i, h => rfl
  | e :: es, i, h => by
    unfold iK
    rw [h e (by simp), aRS (fun e he => h e (by simp [he]))]
abbrev at0 (s : ByteArray) (e : El) : Bool := (bM e 0).toList == s.toList
abbrev at3 (s : ByteArray) (e : El) : Bool := (bM e 3).toList == s.toList
theorem aVI (a b : List UInt8) : (a == b) = (b == a) := by rw [Bool.eq_iff_iff, beq_iff_eq, beq_iff_eq]; exact eq_comm
section
variable {β : Type} {es : List El}
theorem aTr {p : El → Bool} {A : Int → Option β} {yes : Int → Option β} {no : Option β} (hend : A es.length = no)
    (hstep : ∀ (i : Nat) (hi : i < es.length), A i = aA (p es[i]) (yes i) (A ((i + 1 : Nat) : Int))) :
    ∀ i : Nat, i ≤ es.length → A i = if iK p i (es.drop i) < 0 then no else yes (iK p i (es.drop i)) := by
  refine cU ?_ ?_
  · rw [hend]; simp [iK]
  · intro i hi ih
    rw [hstep i hi, lN hi, ih, kS, show iK p (i : Int) (es[i] :: es.drop (i + 1)) = if p es[i] = true then (i : Int) else iK p (i + 1) (es.drop (i + 1)) from rfl]
    by_cases hp : p es[i] = true
    · rw [if_pos hp, if_pos hp, if_neg (by omega)]
    · rw [if_neg hp, if_neg hp]; push_cast; rfl
theorem aBy {p : El → Bool} {A : Int → Option β} {yes : Int → Option β} {no : Option β} (hend : A es.length = no)
    (hstep : ∀ (i : Nat) (hi : i < es.length), A i = aA (p es[i]) (yes i) (A ((i + 1 : Nat) : Int))) :
    A 0 = if iK p 0 es < 0 then no else yes (iK p 0 es) := by
  have := aTr hend hstep 0 (Nat.zero_le _)
  simpa using this
theorem nA {p : El → Bool} {A : Int → Ret false} {bs : List (List (SV false))} (hend : A es.length = some (aK (-1), bs))
    (hstep : ∀ (i : Nat) (hi : i < es.length), A i = aA (p es[i]) (some (aK i, bs)) (A ((i + 1 : Nat) : Int))) : A 0 = some (aK (iK p 0 es), bs) := by
  rw [aBy (yes := fun i => some (aK i, bs)) hend hstep]
  split
  · rename_i h
    rcases aM6 p es 0 (by omega) with h1 | h1
    · rw [h1]
    · omega
  · rfl
theorem aT6 {p : El → Bool} {A : Int → Ret false} {bs : List (List (SV false))} (hend : A es.length = some (aJ false, bs))
    (hstep : ∀ (i : Nat) (hi : i < es.length), A i = aA (p es[i]) (some (aJ true, bs)) (A ((i + 1 : Nat) : Int))) : A 0 = some (aJ (es.any p), bs) := by
  rw [show A 0 = _ from (by
    have h := aBy (yes := fun _ => some (aJ true, bs)) hend hstep
    exact h), ← oB p es 0 (by omega)]
  by_cases hc : iK p 0 es < 0
  · rw [if_pos hc]; simp; omega
  · rw [if_neg hc]; simp; omega
theorem aJt {p : El → Bool} {A : Int → Option β} {yes no : Option β} (hend : A es.length = no)
    (hstep : ∀ (i : Nat) (hi : i < es.length), A i = aA (p es[i]) yes (A ((i + 1 : Nat) : Int))) :
    A 0 = if es.any p = true then yes else no := by
  have h := aBy (yes := fun _ => yes) hend hstep
  rw [h, ← oB p es 0 (by omega)]
  by_cases hc : iK p 0 es < 0
  · rw [if_pos hc, if_neg (by simp; omega)]
  · rw [if_neg hc, if_pos (by simp; omega)]
def eK (g : Nat → El → List El) : Nat → List El → List El
  | _, [] => []
  | i, e :: r => g i e ++ eK g (i + 1) r
theorem aMe (g : El → List El) : ∀ (l : List El) (i : Nat), eK (fun _ => g) i l = l.flatMap g
  | [], _ => rfl
  | e :: r, i => by rw [eK, aMe g r, List.flatMap_cons]
theorem aQL {g h : Nat → El → List El} : ∀ {l : List El} {i : Nat}, (∀ (j : Nat) (hj : j < l.length), g (i + j) l[j] = h (i + j) l[j]) → eK g i l = eK h i l
  | [], _, _ => rfl
  | e :: r, i, hh => by
    rw [eK, eK, aQL (l := r) (i := i + 1) (fun j hj => by have := hh (j + 1) (by simpa using hj); simpa [Nat.add_assoc, Nat.add_comm 1 j] using this)]
    have := hh 0 (by simp)
    simp at this
    rw [this]
theorem kT {g : Nat → El → List El} {c : Nat} : ∀ (l : List El) (i : Nat), (∀ (j : Nat) (hj : j < l.length), (g (i + j) l[j]).length ≤ c) → (eK g i l).length ≤ l.length * c
  | [], _, _ => by simp [eK]
  | e :: r, i, h => by
    have h0 := h 0 (by simp)
    have h1 := kT (g := g) (c := c) r (i + 1) (fun j hj => by have := h (j + 1) (by simpa using hj); simpa [Nat.add_assoc, Nat.add_comm 1 j] using this)
    simp at h0
    rw [eK, List.length_append, List.length_cons, Nat.add_mul]; omega
theorem aO2 {g : Nat → El → List El} {x : El} : ∀ (l : List El) (i : Nat), x ∈ eK g i l → ∃ (j : Nat) (hj : j < l.length), x ∈ g (i + j) l[j]
  | [], _, h => by simp [eK] at h
  | e :: r, i, h => by
    rw [eK] at h
    rcases List.mem_append.1 h with h | h
    · exact ⟨0, by simp, by simpa using h⟩
    · obtain ⟨j, hj, hx⟩ := aO2 r (i + 1) h
      exact ⟨j + 1, by simpa using hj, by simpa [Nat.add_assoc, Nat.add_comm 1 j] using hx⟩
theorem aU1 {g : Nat → El → List El} {A : List El → Int → Option β} {fin : List El → Option β} {c N : Nat} (hg : ∀ (j : Nat) (hj : j < es.length), (g j es[j]).length ≤ c)
    (hend : ∀ out, out.length ≤ N → A out es.length = fin out)
    (hstep : ∀ (i : Nat) (hi : i < es.length) (out : List El), out.length + c ≤ N → A out i = A (out ++ g i es[i]) ((i + 1 : Nat) : Int)) :
    ∀ i : Nat, i ≤ es.length → ∀ out : List El, out.length + (es.length - i) * c ≤ N → A out i = fin (out ++ eK g i (es.drop i)) := by
  refine cU ?_ ?_
  · intro out ho; rw [hend out (by simpa using ho)]; simp [eK]
  · intro i hi ih out ho
    have e1 : (es.length - i) * c = (es.length - (i + 1)) * c + c := by rw [show es.length - i = (es.length - (i + 1)) + 1 by omega, Nat.add_mul, Nat.one_mul]
    rw [hstep i hi out (by omega), ih _ (by have := hg i hi; rw [List.length_append]; omega), lN hi, eK, List.append_assoc]
theorem hX {g : Nat → El → List El} {A : List El → Int → Option β} {fin : List El → Option β} {c N : Nat} (hg : ∀ (j : Nat) (hj : j < es.length), (g j es[j]).length ≤ c)
    (hend : ∀ out, out.length ≤ N → A out es.length = fin out)
    (hstep : ∀ (i : Nat) (hi : i < es.length) (out : List El), out.length + c ≤ N → A out i = A (out ++ g i es[i]) ((i + 1 : Nat) : Int))
    {out : List El} (ho : out.length + es.length * c ≤ N) : A out 0 = fin (out ++ eK g 0 es) := by
  have := aU1 hg hend hstep 0 (Nat.zero_le _) out (by simpa using ho)
  simpa using this
theorem wO {g : Nat → El → List El} {A : List El → Int → Option β} {fin : List El → Option β} {c N : Nat} (hg : ∀ (j : Nat) (hj : j < es.length), (g j es[j]).length ≤ c)
    (hend : ∀ out, out.length ≤ N → A out es.length = fin out)
    (hstep : ∀ (i : Nat) (hi : i < es.length) (out : List El), out.length + c ≤ N → A out i = A (out ++ g i es[i]) ((i + 1 : Nat) : Int))
    (ho : es.length * c ≤ N) : A [] 0 = fin (eK g 0 es) :=
  hX hg hend hstep (out := []) (by simpa using ho)
end
def ifP (q : Bool) (x : El) : List El := if q = true then [x] else []
theorem cH (q : Bool) (x : El) : (ifP q x).length ≤ 1 := by unfold ifP; split <;> simp
theorem aSR {q : Bool} {x y : El} (h : y ∈ ifP q x) : q = true ∧ y = x := by unfold ifP at h; split at h <;> simp_all
@[simp] theorem eH (x : El) : ifP true x = [x] := rfl
@[simp] theorem eC (x : El) : ifP false x = [] := rfl
theorem aP2 {n k z : Nat} (h : n + k ≤ 1000000000000) (hz : z ≤ 100) : decide ((n + k) * z ≤ aO) = true := by
  have hb : aO = 140737488355328 := rfl
  rw [decide_eq_true_eq]
  calc (n + k) * z ≤ 1000000000000 * 100 := Nat.mul_le_mul h hz
    _ ≤ aO := by rw [hb]; decide
end Go.Vs
end
section
set_option linter.unusedVariables false
namespace Go.Vs
def rQ (b : UInt8) : Bool := decide (48 ≤ b.toNat) && decide (b.toNat ≤ 57)
def sQ : List UInt8 → List UInt8
  | [] => []
  | c :: r => if c.toNat = 45 then r else c :: r
def neg (l : List UInt8) : Bool := match l with | [] => false | c :: _ => decide (c.toNat = 45)
def aAG (n : Nat) (c : UInt8) : Nat := n * 10 + (c.toNat - 48)
def tJ (a : Nat) (l : List UInt8) : Nat := l.foldl aAG a
theorem wL (a : Nat) (c : UInt8) (r : List UInt8) : tJ a (c :: r) = tJ (aAG a c) r := by
  unfold tJ
  rw [List.foldl_cons]
theorem aKA (a : Nat) : tJ a [] = a := rfl
def aFE (l : List UInt8) : Bool := decide (l.length ≤ 40) && (decide (sQ l ≠ []) && ((sQ l).all rQ && (decide ((sQ l).length = 1) || decide ((sQ l).head?.map (·.toNat) ≠ some 48))))
theorem aVm (l : List UInt8) : ∀ a : Nat, a ≤ tJ a l := by
  induction l with
  | nil => intro a; exact Nat.le_refl _
  | cons c r ih =>
    intro a
    rw [wL]
    have h : a ≤ aAG a c := by unfold aAG; omega
    exact Nat.le_trans h (ih _)
theorem aS8 (l : List UInt8) : ∀ a b : Nat, a ≤ b → tJ a l ≤ tJ b l := by
  induction l with
  | nil => intro a b h; exact h
  | cons c r ih =>
    intro a b h
    rw [wL, wL]
    have h : aAG a c ≤ aAG b c := by unfold aAG; omega
    exact ih _ _ h
theorem aUj (l : List UInt8) : ∀ a : Nat, a * 10 ^ l.length ≤ tJ a l := by
  induction l with
  | nil => intro a; simp [aKA]
  | cons c r ih =>
    intro a
    rw [List.length_cons, Nat.pow_succ, wL]
    have h1 := ih (a * 10)
    have h : a * 10 ≤ aAG a c := by unfold aAG; omega
    have h2 := aS8 r _ _ h
    have h3 : a * (10 ^ r.length * 10) = a * 10 * 10 ^ r.length := by rw [Nat.mul_comm (10 ^ r.length) 10, Nat.mul_assoc]
    rw [h3]
    exact Nat.le_trans h1 h2
theorem aWY (l : List UInt8) : ∀ a : Nat, l.all rQ = true → tJ a l < (a + 1) * 10 ^ l.length := by
  induction l with
  | nil => intro a _; simp [aKA]
  | cons c r ih =>
    intro a h
    rw [List.all_cons, Bool.and_eq_true] at h
    have hc : 48 ≤ c.toNat ∧ c.toNat ≤ 57 := by simpa [rQ] using h.1
    have h1 := ih (aAG a c) h.2
    rw [List.length_cons, Nat.pow_succ, wL]
    have h2 : (aAG a c + 1) * 10 ^ r.length ≤ (a + 1) * (10 ^ r.length * 10) := by
      rw [Nat.mul_comm (10 ^ r.length) 10, ← Nat.mul_assoc]
      have : aAG a c + 1 ≤ (a + 1) * 10 := by unfold aAG; omega
      exact Nat.mul_le_mul_right _ this
    exact Nat.lt_of_lt_of_le h1 h2
theorem aT4 (l : List UInt8) : ∀ a : Nat, l.all rQ = true → a ≤ 4294967295 → Lib.parseUintM 4294967295 a l = if tJ a l ≤ 4294967295 then .ok (tJ a l) else .range := by
  induction l with
  | nil => intro a _ h; rw [aKA, if_pos h, Lib.parseUintM]
  | cons c r ih =>
    intro a hl h
    rw [List.all_cons, Bool.and_eq_true] at hl
    have hc : 48 ≤ c.toNat ∧ c.toNat ≤ 57 := by simpa [rQ] using hl.1
    rw [Lib.parseUintM, if_pos hc, if_neg (by omega), wL, show a * 10 + (c.toNat - 48) = aAG a c from rfl]
    by_cases hb : 4294967295 < aAG a c
    · rw [if_pos hb, if_neg]
      have := aVm r (aAG a c)
      omega
    · rw [if_neg hb, ih _ hl.2 (by omega)]
def aR9 (l : List UInt8) : Bool := if neg l = true then decide (tJ 0 (sQ l) ≤ 2147483648) else decide (tJ 0 (sQ l) ≤ 2147483647)
def okB (l : List UInt8) : Bool := match Lib.parseIntB 32 l with | .ok _ => true | _ => false
theorem aVy {l : List UInt8} (h : aFE l = true) : okB l = aR9 l := by
  unfold okB
  unfold aFE at h
  simp only [Bool.and_eq_true, decide_eq_true_eq] at h
  obtain ⟨_, hne, hall, _⟩ := h
  cases l with
  | nil => simp [sQ] at hne
  | cons c r =>
    by_cases hc : c.toNat = 45
    · have hd : sQ (c :: r) = r := by simp [sQ, hc]
      rw [hd] at hne hall
      have hb : Lib.parseUintB 32 r = if tJ 0 r ≤ 4294967295 then .ok (tJ 0 r) else .range := by
        unfold Lib.parseUintB; rw [if_neg hne]; exact aT4 r 0 hall (by omega)
      unfold Lib.parseIntB aR9 neg
      simp only [hc, or_true, if_true, hb, hd, decide_true]
      by_cases hv : tJ 0 r ≤ 4294967295
      · rw [if_pos hv]
        by_cases h2 : tJ 0 r ≤ 2147483648
        · have : ¬ (2147483648 < tJ 0 r) := by omega
          simp [h2, this]
        · have : 2147483648 < tJ 0 r := by omega
          simp [h2, this]
      · rw [if_neg hv]
        have : ¬ tJ 0 r ≤ 2147483648 := by omega
        simp [this]
    · have hd : sQ (c :: r) = c :: r := by simp [sQ, hc]
      rw [hd] at hne hall
      have h43 : ¬ (c.toNat = 43 ∨ c.toNat = 45) := by
        simp only [List.all_cons, Bool.and_eq_true, rQ, decide_eq_true_eq] at hall
        omega
      have hb : Lib.parseUintB 32 (c :: r) = if tJ 0 (c :: r) ≤ 4294967295 then .ok (tJ 0 (c :: r)) else .range := by
        unfold Lib.parseUintB; rw [if_neg hne]; exact aT4 (c :: r) 0 hall (by omega)
      unfold Lib.parseIntB aR9 neg
      simp only [if_neg h43, hb, hd]
      simp only [hc, decide_false, Bool.false_eq_true, if_false]
      by_cases hv : tJ 0 (c :: r) ≤ 4294967295
      · rw [if_pos hv]
        by_cases h2 : tJ 0 (c :: r) ≤ 2147483647
        · have : ¬ (2147483648 ≤ tJ 0 (c :: r)) := by omega
          simp [h2, this]
        · have : 2147483648 ≤ tJ 0 (c :: r) := by omega
          simp [h2, this]
      · rw [if_neg hv]
        have : ¬ tJ 0 (c :: r) ≤ 2147483647 := by omega
        simp [this]
theorem aUi {l : List UInt8} (h : aFE l = true) (hl : 11 < l.length) : aR9 l = false := by
  unfold aFE at h
  simp only [Bool.and_eq_true, Bool.or_eq_true, decide_eq_true_eq] at h
  obtain ⟨_, hne, hall, hz⟩ := h
  have hlen : 11 ≤ (sQ l).length := by
    cases l with
    | nil => simp at hl
    | cons c r =>
      rw [List.length_cons] at hl
      simp only [sQ]
      split
      · omega
      · rw [List.length_cons]; omega
  cases hd : sQ l with
  | nil => exact absurd hd hne
  | cons c r =>
    rw [hd] at hall hz hlen
    simp only [List.all_cons, Bool.and_eq_true, rQ, decide_eq_true_eq] at hall
    have hc : 49 ≤ c.toNat := by
      rcases hz with hz | hz
      · omega
      · simp at hz; omega
    rw [List.length_cons] at hlen
    have h1 := aUj r (aAG 0 c)
    have h2 : 10 ^ 10 ≤ 10 ^ r.length := Nat.pow_le_pow_right (by omega) (by omega)
    have h0 : 1 ≤ aAG 0 c := by unfold aAG; omega
    have h3 : 1 * 10 ^ r.length ≤ aAG 0 c * 10 ^ r.length := Nat.mul_le_mul_right _ h0
    have h4 : 10000000000 ≤ tJ 0 (c :: r) := by
      rw [wL]
      have : (10 : Nat) ^ 10 = 10000000000 := by decide
      omega
    unfold aR9
    rw [hd]
    split <;> simp <;> omega
theorem aUy {β : Type} {l : List UInt8} {p : UInt8 → Bool} {A : Int → Option β} {yes no : Option β} (hend : A l.length = yes)
    (hstep : ∀ (i : Nat) (hi : i < l.length), A i = aA (!p l[i]) no (A ((i + 1 : Nat) : Int))) : A 0 = if l.all p = true then yes else no := by
  have key : ∀ i : Nat, i ≤ l.length → A i = if (l.drop i).all p = true then yes else no := by
    refine cU ?_ ?_
    · rw [hend]; simp
    · intro i hi ih
      rw [hstep i hi, List.drop_eq_getElem_cons hi, List.all_cons, ih]
      cases p l[i] <;> simp
  have := key 0 (Nat.zero_le _)
  simpa using this
theorem aS0 (s : ByteArray) : s.toList = s.data.toList := by first | exact ByteArray.toList_eq s | exact Go.ByteArray.toList_eq s
theorem aHS (s : ByteArray) : s.data.toList.length = s.size := by rw [Array.length_toList]; rfl
def aFV (s : ByteArray) (c : UInt8) : ByteArray := if s.data.toList.head? = some c then s.extract 1 s.size else s
theorem aKB (s : ByteArray) (a b : Nat) : (s.extract a b).data.toList = (s.data.toList.take b).drop a := by
  rw [ByteArray.data_extract, Array.toList_extract, List.extract_eq_take_drop, List.drop_take]
theorem aTQ (s : ByteArray) : (aFV s 45).data.toList = sQ s.data.toList := by
  have hn := aHS s
  unfold aFV
  cases hl : s.data.toList with
  | nil => simp [sQ, hl]
  | cons c r =>
    rw [hl] at hn
    by_cases hc : c = 45
    · subst hc
      rw [if_pos (by simp), aKB, hl, List.take_of_length_le (by omega)]
      simp [sQ]
    · have : ¬ c.toNat = 45 := fun h => hc (by rw [← UInt8.toNat_inj]; simpa using h)
      rw [if_neg (by simpa using hc), hl]
      simp [sQ, this]
def uM : List UInt8 → Nat
  | [] => 0
  | c :: r => if rQ c = true then uM r + 1 else 0
theorem aTG (c : UInt8) (r : List UInt8) : uM (c :: r) = if rQ c = true then uM r + 1 else 0 := rfl
theorem aM8 : ∀ l : List UInt8, uM l ≤ l.length
  | [] => Nat.le_refl _
  | c :: r => by unfold uM; have := aM8 r; split <;> simp <;> omega
theorem aRs : ∀ l : List UInt8, decide (uM l = l.length) = l.all rQ
  | [] => rfl
  | c :: r => by
    have ih := aRs r
    have hl := aM8 r
    unfold uM
    rw [List.all_cons, ← ih]
    cases rQ c
    · simp
    · simp
theorem aWt {c : UInt8} {r : List UInt8} : uM (c :: r) = 0 ↔ rQ c = false := by
  unfold uM
  cases rQ c <;> simp
theorem aUf (l : List UInt8) (k : Nat) (hk : k = if neg l = true then 1 else 0) (h0 : l ≠ []) :
    aFE l = (decide (l.length ≤ 40) && decide ((if uM (l.drop k) = 0 ∨ ((l.drop k).head?.map (·.toNat) = some 48 ∧ 1 < uM (l.drop k)) then 0 else k + uM (l.drop k)) = l.length)) := by
  have hd : l.drop k = sQ l := by
    cases l with
    | nil => exact absurd rfl h0
    | cons c r => subst hk; by_cases hc : c.toNat = 45 <;> simp [neg, sQ, hc]
  have hl : l.length = k + (sQ l).length := by
    cases l with
    | nil => exact absurd rfl h0
    | cons c r => subst hk; by_cases hc : c.toNat = 45 <;> simp [neg, sQ, hc] <;> omega
  have hpos : 0 < l.length := List.length_pos_iff.2 h0
  rw [hd]
  unfold aFE
  rw [← aRs]
  cases hx : sQ l with
  | nil =>
    rw [hx] at hl
    simp at hl
    have : ¬ (0 = l.length) := by omega
    simp [uM, this]
  | cons c r =>
    rw [hx] at hl
    have hle := aM8 (c :: r)
    simp only [ne_eq, List.cons_ne_nil, not_false_eq_true, decide_true, Bool.true_and, List.head?_cons, Option.map_some, Option.some.injEq]
    congr 1
    by_cases hz : uM (c :: r) = 0
    · have h1 : ¬ (0 = (c :: r).length) := by simp
      have h2 : ¬ (0 = l.length) := by omega
      simp only [hz, true_or, if_true, h2, decide_false]
      rw [decide_eq_false h1, Bool.false_and]
    · by_cases h48 : c.toNat = 48
      · by_cases h1 : 1 < uM (c :: r)
        · have h2 : ¬ (0 = l.length) := by omega
          have h3 : ¬ ((c :: r).length = 1) := by omega
          rw [if_pos (.inr ⟨h48, h1⟩), decide_eq_false h2, decide_eq_false h3, show decide (¬ c.toNat = 48) = false by simp [h48]]
          simp
        · have h4 : uM (c :: r) = 1 := by omega
          rw [if_neg (by omega), h4, hl, Bool.eq_iff_iff]
          simp [h48]
      · rw [if_neg (by omega), hl, Bool.eq_iff_iff]
        simp [h48]
end Go.Vs
end
section
namespace Go.Vs
open Go Go.RowKit
variable {m : Bool} {P : Program} {N : Env} {s : St m} {tmps : Array Value} {w w' : World} {F : Fr} {Ow : Own} {bm : Nat → Nat}
theorem aMa (h : Inv P s tmps w F N Ow bm) (hb : Below w.heap.size w w') : hM N w F w' F := by
  refine hM.mk' (fun g j hj => ?_) (fun g => Nat.le_refl _) (fun g hg => ?_)
  · have hg : g < w.heap.size := Nat.lt_of_not_le fun hn => by have := (h.new g hn).1; omega
    unfold World.cell?
    simp only [hb.block g hg]
  · obtain ⟨cur, e, hc⟩ := hg
    exact ⟨cur, e, by rw [hb.block g (Array.getElem?_eq_some_iff.1 hc).1]; exact hc⟩
theorem aTy (h : Inv P s tmps w F N Ow bm) (hb : Below w.heap.size w w') : Far N w F Ow w' F Ow :=
  ⟨hb.os, hb.tape, hb.output, hb.size, aMa h hb, fun g hg ho => ⟨fun _ => hb.block g hg, rfl, ho⟩⟩
theorem aTM (h : Inv P s tmps w F N Ow bm) (hb : Below w.heap.size w w') {l : aF m} {v : Value} (hv : eW w' F N l v) :
    Inv P { tmps := [SV.leaf l], boxes := ([] : List (List (SV m))).map some } #[v] w' F N Ow bm := by
  refine ⟨rfl, fun t => ?_, fun b cs hc => by simp [bP] at hc, h.low.to (aMa h hb) hb.size, fun g hg => h.new g (Nat.le_trans hb.size hg), fun b cs hc => by simp [bP] at hc, fun g hz => ?_⟩
  · cases t with
    | zero => exact bD.leaf hv
    | succ t => simp only [List.getD_cons_succ, List.getD_nil]; exact bD.any
  · obtain ⟨h1, cur, e, h2⟩ := h.zow g hz
    exact ⟨h1, cur, e, by rw [hb.block g (Nat.lt_of_lt_of_le (N.lt g hz) h.low.le)]; exact h2⟩
theorem aVG {a : ByteArray} {bs : List (Option (List (SV m)))} (h : Inv P { tmps := [.leaf (.str a)], boxes := bs } tmps w F N Ow bm) : tmps = #[.string a] := by
  have hl := h.len
  have hs := h.slot 0
  have hv : tmps.getD 0 undef = .string a := by
    have h1 : eW w F N (aF.str a : aF m) (tmps.getD 0 undef) := by simpa [bD, eP] using hs
    generalize tmps.getD 0 undef = v at h1
    cases h1; rfl
  have h1 : tmps.size = 1 := hl.symm
  apply Array.ext
  · simpa using h1
  · intro i hi hi2
    have : i = 0 := by omega
    subst this
    simpa [Array.getD, hi] using hv
end Go.Vs
end
