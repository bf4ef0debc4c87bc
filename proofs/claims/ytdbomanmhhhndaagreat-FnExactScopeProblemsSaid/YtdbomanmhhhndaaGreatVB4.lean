/- What the program's functions compute, read off their text by the shadow runner (VsLift, VsPhase, VsTurn, VsLaw, VsCmb, VsStruct, VsDat, USt, UL, VsTold, VsNames, VsLst, VsRaw, VsInPlace, VsSort); no condition. -/
import Derived.Test.YtdbomanmhhhndaaGreatRows
import Derived.Laws.Strings
import Derived.Sort.Walk0
import Derived.Sort.Grow
import Derived.Sort.EncStr
import Derived.Test.YtdbomanmhhhndaaGreatVB3
section
namespace Go.Vs
variable {m m' : Bool} {P : Program}
mutual
def reS (φ : Fl m → Fl m') : SV m → SV m'
  | .any => .any
  | .skip => .skip
  | .leaf l => .leaf (reF φ l)
  | .own e es => .own e (reE φ es)
  | .raw e es => .raw e (reE φ es)
  | .agg cs => .agg (reL φ cs)
  | .ptr b o => .ptr b o
  | .eptr _ _ _ => .any
  | .kfn f cs => .kfn f cs
  | .bsl b z lo n => .bsl b z lo n
  | .nilptr => .nilptr
  | .nilface => .nilface
  | .fn f caps => .fn f (aNc φ caps)
  | .tup vs => .tup (aNc φ vs)
def aNc (φ : Fl m → Fl m') : List (SV m) → List (SV m')
  | [] => []
  | v :: r => reS φ v :: aNc φ r
end
variable {φ : Fl m → Fl m'}
theorem yL : ∀ l : List (SV m), aNc φ l = l.map (reS φ)
  | [] => rfl
  | l :: r => by rw [aNc, List.map_cons, yL r]
theorem aET (x : SV m) (h : x.flat = true) : (reS φ x).flat = true := by cases x <;> first | rfl | simp [SV.flat] at h
theorem aNo (x : SV m) (h : x.flatT = true) : (reS φ x).flatT = true := by
  cases x with
  | tup vs =>
    rw [reS, yL]
    simp only [SV.flatT, List.all_map] at h ⊢
    exact List.all_eq_true.2 fun v hv => aET v (List.all_eq_true.1 h v hv)
  | _ => first | rfl | simp [SV.flatT, SV.flat] at h
theorem aOq {n : Nat} (x : SV m) (h : x.backOk n = true) : (reS φ x).backOk n = true := by
  rcases aAa h with ⟨b, z, lo, k, rfl, hlt⟩ | h'
  · exact h
  · have := aNo (φ := φ) x h'
    cases x <;> first | exact this | simp [SV.flatT, SV.flat] at h'
theorem aMm (x : SV m) (h : x.handed = true) : (reS φ x).handed = true := by
  cases x with
  | fn f caps =>
    rw [reS, yL]
    simp only [SV.handed, List.all_map] at h ⊢
    refine List.all_eq_true.2 fun v hv => ?_
    have := List.all_eq_true.1 h v hv
    cases v <;> first | rfl | simp at this
  | _ => first | rfl | simp [SV.handed, SV.data] at h
def aL0 (φ : Fl m → Fl m') (s : St m) : St m' := { tmps := s.tmps.map (reS φ), boxes := s.boxes.map (Option.map (List.map (reS φ))) }
theorem aIz (bs : fG m) (b : Nat) : aR (bs.map (Option.map (List.map (reS φ)))) b = (aR bs b).map (List.map (reS φ)) := by
  unfold aR
  rw [List.getD_eq_getElem?_getD, List.getD_eq_getElem?_getD, List.getElem?_map]
  cases bs[b]? <;> rfl
section
variable {w : World} {F : Fr} {N : Env} (hok : aN3 φ w F N F N)
include hok
theorem cJ.re {bm : Nat → Nat} {al : Nat → Bool} {x : SV m} {v : Value} (h : cJ w F N bm al x v) : cJ w F N bm al (reS φ x) v := by
  cases x with
  | leaf l => exact dJ.re hok h
  | agg cs => obtain ⟨vs, e, hr⟩ := h; exact ⟨vs, e, hr.re hok⟩
  | eptr c e o => trivial
  | own e es => exact absurd h id
  | raw e es => exact absurd h id
  | fn f caps => exact absurd h id
  | tup vs => exact absurd h id
  | _ => exact h
theorem jR.re {Ow : Own} {loc : Loc} {q : Bool} {eo : Option TypeId} {es : List (List (aB m))} {v : Value} (h : jR P w F N Ow loc q eo es v) : jR P w F N Ow loc q eo (reE φ es) v := by
  rcases h with ⟨rfl, rfl⟩ | ⟨g, cap, cur, e, i, vals, hn, he, hi, hz, rfl, hg, hc, hm, hs, hx, ho, hf, ht, hr⟩
  · exact .inl ⟨rfl, rfl⟩
  · refine .inr ⟨g, cap, cur, e, i, vals, hn, he, hi, hz, by rw [bL], hg, by rw [bL]; exact hc, hm, hs, fun x hx' => ?_, ho, by rw [bL]; exact hf, by rw [bL]; exact ht, by rw [wE]; exact hr.re hok⟩
    rw [wD] at hx'
    obtain ⟨x0, hx0, rfl⟩ := List.mem_map.1 hx'
    rw [aAd]; exact hx x0 hx0
theorem aP.re {Ow : Own} {bm : Nat → Nat} {al : Nat → Bool} {loc : Loc} {x : SV m} {v : Value} (h : aP P w F N Ow bm al loc x v) : aP P w F N Ow bm al loc (reS φ x) v := by
  have caps : ∀ (cs : List (SV m)) (vs : Array Value), (∀ (j : Nat) (c : SV m) (u : Value), cs[j]? = some c → vs[j]? = some u → cJ w F N bm al c u) →
      ∀ (j : Nat) (c : SV m') (u : Value), (aNc φ cs)[j]? = some c → vs[j]? = some u → cJ w F N bm al c u := by
    intro cs vs hc j c u h1 h2
    rw [yL, List.getElem?_map, Option.map_eq_some_iff] at h1
    obtain ⟨c0, h0, rfl⟩ := h1
    exact (hc j c0 u h0 h2).re hok
  cases x with
  | own eo es => exact jR.re hok h
  | raw eo es => exact jR.re hok h
  | fn f cs => obtain ⟨vs, e, hs, hc⟩ := h; exact ⟨vs, e, by rw [hs, yL, List.length_map], caps cs vs hc⟩
  | tup cs => obtain ⟨vs, e, hs, hc⟩ := h; exact ⟨vs, e, by rw [hs, yL, List.length_map], caps cs vs hc⟩
  | any => trivial
  | eptr c e o => trivial
  | _ =>
    simp only [aP] at h
    have := cJ.re (bm := bm) (al := al) hok h
    simpa only [reS, aP] using this
theorem Inv.re {s : St m} {tmps : Array Value} {Ow : Own} {bm : Nat → Nat} (h : Inv P s tmps w F N Ow bm) : Inv P (aL0 φ s) tmps w F N Ow bm := by
  have hal : (fun b => (aR (aL0 φ s).boxes b).isSome) = fun b => (aR s.boxes b).isSome := by
    funext b; show (aR (s.boxes.map _) b).isSome = _; rw [aIz]; cases aR s.boxes b <;> rfl
  refine ⟨by show (s.tmps.map _).length = _; rw [List.length_map]; exact h.len, fun t => ?_, fun b cs hb => ?_, h.low, h.new, fun b cs hb => ?_, h.zow⟩
  · rw [hal]
    have := aP.re hok (h.slot t)
    have e : (aL0 φ s).tmps.getD t SV.any = reS φ (s.tmps.getD t SV.any) := by
      show (s.tmps.map (reS φ)).getD t SV.any = _
      rw [List.getD_eq_getElem?_getD, List.getD_eq_getElem?_getD, List.getElem?_map]
      cases s.tmps[t]? <;> rfl
    rw [e]; exact this
  · have hb' : (aR s.boxes b).map (List.map (reS φ)) = some cs := by rw [← aIz]; exact hb
    rw [Option.map_eq_some_iff] at hb'
    obtain ⟨cs0, h0, rfl⟩ := hb'
    rcases h.box b cs0 h0 with q0 | ⟨cur, e, g1, g2, g3, g4, g5⟩
    · subst q0; exact .inl rfl
    refine .inr ⟨cur, e, g1, by rw [List.length_map]; exact g2, g3, g4, fun j c u h1 h2 => ?_⟩
    rw [hal]
    rw [List.getElem?_map, Option.map_eq_some_iff] at h1
    obtain ⟨c0, hc0, rfl⟩ := h1
    exact aP.re hok (g5 j c0 u hc0 h2)
  · have hb' : (aR s.boxes b).map (List.map (reS φ)) = some cs := by rw [← aIz]; exact hb
    rw [Option.map_eq_some_iff] at hb'
    obtain ⟨cs0, h0, _⟩ := hb'
    exact h.bmn b cs0 h0
end
abbrev er : Fl true → Fl false := fun _ => ()
abbrev li : Fl false → Fl true := fun _ => mV.old
def aDX (D : bA false) (f : FuncId) (args : List (SV true)) (boxes : List (List (SV true))) : Option (SV true × List (List (SV true))) :=
  (D f (args.map (reS er)) (boxes.map (List.map (reS er)))).map fun r => (reS li r.1, r.2.map (List.map (reS li)))
theorem aJA {N : Env} {D : bA false} (hD : jU P N D) : jU P N (aDX D) := by
  intro f args boxes r hr hh hf
  unfold aDX at hr
  rw [Option.map_eq_some_iff] at hr
  obtain ⟨r0, hr0, rfl⟩ := hr
  obtain ⟨a1, a2, a3, a4, a5⟩ := hD f _ _ r0 hr0 (by
    rw [List.all_map]
    exact List.all_eq_true.2 fun v hv => aMm v (List.all_eq_true.1 hh v hv)) (fun c hc x hx => by
    obtain ⟨c0, hc0, rfl⟩ := List.mem_map.1 hc
    obtain ⟨x0, hx0, rfl⟩ := List.mem_map.1 hx
    exact aET x0 (hf c0 hc0 x0 hx0))
  refine ⟨by rw [List.length_map, a1, List.length_map], aOq _ (by rw [List.length_map] at a2; exact a2), fun cs hcs c hc => ?_, a4, fun w F Ow bm vals h => ?_⟩
  · obtain ⟨c0, hc0, rfl⟩ := List.mem_map.1 hcs
    obtain ⟨x0, hx0, rfl⟩ := List.mem_map.1 hc
    exact aET x0 (a3 c0 hc0 x0 hx0)
  · have e : aL0 er { tmps := args, boxes := boxes.map some } = { tmps := args.map (reS er), boxes := (boxes.map (List.map (reS er))).map some } := by
      unfold aL0
      simp only [List.map_map]
      rfl
    refine (a5 w F Ow bm vals (e ▸ Inv.re (aDs (fun c g o => aK0 _) (fun c => rfl)) h)).mono fun ex w' ⟨v, F', Ow', h1, h2, h3⟩ => ⟨v, F', Ow', h1, ?_, h3⟩
    have e2 : aL0 li { tmps := [r0.1], boxes := r0.2.map some } = { tmps := [reS li r0.1], boxes := (r0.2.map (List.map (reS li))).map some } := by
      unfold aL0
      simp only [List.map_map]
      rfl
    exact e2 ▸ Inv.re (aDs (fun c g o => aJj) (fun c => rfl)) h2
def aIo (D : bA false) (zH : FuncId → Bool) : aGT true := fun f => match zH f with | true => none | false => some fun a b => aDX D f a b
theorem aK4 {N : Env} {D : bA false} (hD : jU P N D) (zH : FuncId → Bool) : aJL P N (aIo D zH) := by
  intro f t ht
  unfold aIo at ht
  cases hk : zH f with
  | true => simp [hk] at ht
  | false =>
    simp only [hk, Option.some.injEq] at ht
    subst ht
    intro g args boxes r hr
    simp only at hr
    split at hr
    · rename_i hg; subst hg; exact aJA hD g args boxes r hr
    · simp at hr
theorem aMY {D : bA false} {zH : FuncId → Bool} {H : FuncId → eX} {f : FuncId} (hk : zH f = false) {a : List (SV true)} {b : List (List (SV true))} {a' : List (SV false)} {b' : List (List (SV false))} {r' : SV false × List (List (SV false))} {r : SV true × List (List (SV true))}
    (h : D f a' b' = some r') (ha : a.map (reS er) = a') (hb : b.map (List.map (reS er)) = b') (hr : (reS li r'.1, r'.2.map (List.map (reS li))) = r) : den P (aIo D zH) H f a b = some r := by
  subst ha hb hr
  refine aH1 (T := aIo D zH) (t := fun a b => aDX D f a b) (by simp [aIo, hk]) ?_
  simp [aDX, h]
end Go.Vs
end
section
namespace Go.Vs
variable {m : Bool} {P : Program}
def rG : Code → Bool
  | .seq a b => rG a && rG b
  | .cond _ a b => rG a && rG b
  | .block _ a => rG a
  | .loop _ => false
  | _ => true
def iL : Nat → Code → Bool
  | 0, _ => true
  | n + 1, .seq a b => rG a && iL n b
  | _ + 1, _ => false
abbrev way (n : Nat) : List Nat := List.replicate n 1
section
variable {β : Type} {D : bA m} {H : eX} {nm : List (List Nat)} {J : List Nat × St m → Option β}
theorem lK : ∀ (c : Code) (r : List Nat) (blk : Nat) (s : St m) (k : Out m → Option β), rG c = true → (∀ q : List Nat, nm.contains (q ++ r).reverse = false) → nU P D H nm J r blk c s k = cY P D H bQ blk c s k
  | .seq a b, r, blk, s, k, hn, hr => by
    simp only [rG, Bool.and_eq_true] at hn
    have h0 : ∀ q : List Nat, nm.contains (q ++ (0 :: r)).reverse = false := fun q => by have := hr (q ++ [0]); rwa [List.append_assoc] at this
    have h1 : ∀ q : List Nat, nm.contains (q ++ (1 :: r)).reverse = false := fun q => by have := hr (q ++ [1]); rwa [List.append_assoc] at this
    have c0 : nm.contains (0 :: r).reverse = false := h0 []
    have c1 : nm.contains (1 :: r).reverse = false := h1 []
    simp only [nU, cY, c0, c1, Bool.false_eq_true, if_false]
    rw [lK a _ _ _ _ hn.1 h0]
    congr 1
    funext o
    cases o <;> simp only [aIq]
    exact lK b _ _ _ _ hn.2 h1
  | .cond c a b, r, blk, s, k, hn, hr => by
    simp only [rG, Bool.and_eq_true] at hn
    have h0 : ∀ q : List Nat, nm.contains (q ++ (0 :: r)).reverse = false := fun q => by have := hr (q ++ [0]); rwa [List.append_assoc] at this
    have h1 : ∀ q : List Nat, nm.contains (q ++ (1 :: r)).reverse = false := fun q => by have := hr (q ++ [1]); rwa [List.append_assoc] at this
    have c0 : nm.contains (0 :: r).reverse = false := h0 []
    have c1 : nm.contains (1 :: r).reverse = false := h1 []
    simp only [nU, cY, c0, c1, Bool.false_eq_true, if_false, pF]
    congr 1
    funext t
    rw [lK a _ _ _ _ hn.1 h0, lK b _ _ _ _ hn.2 h1]
  | .block id a, r, blk, s, k, hn, hr => by
    simp only [rG] at hn
    have h0 : ∀ q : List Nat, nm.contains (q ++ (0 :: r)).reverse = false := fun q => by have := hr (q ++ [0]); rwa [List.append_assoc] at this
    have c0 : nm.contains (0 :: r).reverse = false := h0 []
    simp only [nU, cY, c0, Bool.false_eq_true, if_false]
    exact lK a _ _ _ _ hn h0
  | .loop a, _, _, _, _, hn, _ => by simp [rG] at hn
  | .skip, _, _, _, _, _, _ => rfl
  | .region .., _, _, _, _, _, _ => rfl
  | .exit _, _, _, _, _, _, _ => rfl
  | .ret, _, _, _, _, _, _ => rfl
  | .rangeFunc .., _, _, _, _, _, _ => rfl
  | .scope _, _, _, _, _, _, _ => rfl
  | .label _, _, _, _, _, _, _ => rfl
  | .goto _, _, _, _, _, _, _ => rfl
  | .refuse _, _, _, _, _, _, _ => rfl
theorem aJP {j : Nat} (q : List Nat) (r : List Nat) : ([way j] : List (List Nat)).contains (q ++ (0 :: r)).reverse = false := by
  rw [Bool.eq_false_iff]
  intro h
  have := List.eq_of_mem_singleton (List.contains_iff_mem.1 h)
  have h0 : (0 : Nat) ∈ (q ++ (0 :: r)).reverse := by simp
  rw [this] at h0
  have := List.eq_of_mem_replicate h0
  omega
theorem aCh (j : Nat) : (way j).reverse = way j := List.reverse_replicate
theorem aJU (c : Code) : sub c [] = c := by cases c <;> rfl
theorem aCk : ∀ (j : Nat) (c : Code), iL j c = true → eY 0 c (way j) = 0
  | 0, c, _ => by cases c <;> rfl
  | j + 1, .seq a b, h => by
    simp only [iL, Bool.and_eq_true] at h
    simp only [way, List.replicate_succ, eY]
    exact aCk j b h.2
theorem zR {kE : Out m → Option β} : ∀ (j : Nat) (r : List Nat) (c : Code), iL j c = true → tY P D H nm J r 0 c (way j) kE = kE
  | 0, r, c, _ => by cases c <;> rfl
  | j + 1, r, .seq a b, h => by
    simp only [iL, Bool.and_eq_true] at h
    simp only [way, List.replicate_succ, tY]
    exact zR j _ b h.2
end
section
variable {D : bA m} {H : eX} {nt : Nat} {β : Type}
theorem aBN {N : Env} (hP : P.follows .mixedOrders = true) (hD : jU P N D) (hH : H.nt = nt) {L : Nat} (hL : nt ≤ L) {c : Code} {blk : Nat} {k : Out m → Option β} {y : β} {s : St m} {a : Act} {w : World} {F : Fr} {Ow : Own} {bm : Nat → Nat}
    {Q : Exit → Act → World → Prop} (hc : cY P D H bQ blk c s k = some y) (h : Inv P s a.tmps w F N Ow bm) (hl : s.boxes.length = L)
    (hk : ∀ out ex a' w', k out = some y → yC P N nt L a w F Ow bm out ex a' w' → Q ex a' w') : c.wp P Q a w := by
  have h1 := aJf (P := P) (D := D) (H := H) aMT c blk s k k y (fun _ h => h) hc
  rw [gI, Option.bind_eq_some_iff] at h1
  obtain ⟨o, ho, hko⟩ := h1
  obtain ⟨n, hn⟩ := aJm (Dn := fun _ => D) (D := D) ⟨fun _ _ _ _ _ _ _ h => h, fun f a b r h => ⟨0, h⟩⟩ c blk s o ho
  refine aIp hP hD hH n L hL c blk some o s a w F Ow bm Q (hn n (Nat.le_refl _)) h hl fun out ex a' w' he hend => ?_
  obtain rfl := Option.some.inj he
  exact hk _ _ _ _ hko hend
theorem aGq {N : Env} (hP : P.follows .mixedOrders = true) (hD : jU P N D) (hH : H.nt = nt) {L : Nat} (hL : nt ≤ L) {J : List Nat × St m → Option β} {k : Out m → Option β} {y : β} {Q : Exit → Act → World → Prop} :
    ∀ (n j : Nat) (c : Code) (s : St m) (a : Act) (w : World) (F : Fr) (Ow : Own) (bm : Nat → Nat), iL (n + 1) c = true → nU P D H [way (j + (n + 1))] J (way j) 0 c s k = some y → Inv P s a.tmps w F N Ow bm → s.boxes.length = L →
    (∀ out ex a' w', k out = some y → (∀ s', out ≠ .norm s') → yC P N nt L a w F Ow bm out ex a' w' → Q ex a' w') →
    (∀ s' a' w', J (way (j + (n + 1)), s') = some y → iU P N nt s' a w F Ow bm a' w' → s'.boxes.length = L → (sub c (way (n + 1))).wp P Q a' w') → c.wp P Q a w := by
  intro n
  induction n with
  | zero =>
    intro j c s a w F Ow bm hs hc h hl hk hJ
    cases c with
    | seq x y' =>
      simp only [iL, Bool.and_eq_true] at hs
      have c0 : ([way (j + 1)] : List (List Nat)).contains (0 :: way j).reverse = false := aJP [] (way j)
      have c1 : ([way (j + 1)] : List (List Nat)).contains (1 :: way j).reverse = true := by
        rw [show (1 :: way j) = way (j + 1) from rfl, aCh]; simp
      have e1 : (1 :: way j).reverse = way (j + 1) := by rw [show (1 :: way j) = way (j + 1) from rfl, aCh]
      simp only [nU, Nat.zero_add, c0, c1, Bool.false_eq_true, if_false, if_true] at hc
      rw [lK x _ _ _ _ hs.1 fun q => aJP q (way j)] at hc
      refine wp_seq (aBN hP hD hH hL hc h hl fun out ex a' w' ho he => ?_)
      cases out <;> cases ex <;> simp only [yC] at he
      · simp only [aIq, e1] at ho
        have := hJ _ a' w' ho he.1 he.2
        rw [show sub (x.seq y') (way (0 + 1)) = sub y' [] from rfl, aJU] at this
        exact this
      · exact hk _ _ _ _ ho (fun s' h => by cases h) he
      · exact hk _ _ _ _ ho (fun s' h => by cases h) he
    | _ => simp [iL] at hs
  | succ n ih =>
    intro j c s a w F Ow bm hs hc h hl hk hJ
    cases c with
    | seq x y' =>
      rw [iL, Bool.and_eq_true] at hs
      have c0 : ([way (j + (n + 1 + 1))] : List (List Nat)).contains (0 :: way j).reverse = false := aJP [] (way j)
      have c1 : ([way (j + (n + 1 + 1))] : List (List Nat)).contains (1 :: way j).reverse = false := by
        rw [show (1 :: way j) = way (j + 1) from rfl, aCh, Bool.eq_false_iff]
        intro hh
        have := congrArg List.length (List.eq_of_mem_singleton (List.contains_iff_mem.1 hh))
        simp at this
      simp only [nU, c0, c1, Bool.false_eq_true, if_false] at hc
      rw [lK x _ _ _ _ hs.1 fun q => aJP q (way j)] at hc
      refine wp_seq (aBN hP hD hH hL hc h hl fun out ex a' w' ho he => ?_)
      cases out <;> cases ex <;> simp only [yC] at he
      · simp only [aIq] at ho
        obtain ⟨hst, hl'⟩ := he
        obtain ⟨F1, O1, b1, h1, htr⟩ := yC.trans (L := L) hst
        obtain ⟨F2, O2, b2, h2, htr2⟩ := hst.inv
        refine ih (j + 1) y' _ a' w' F2 O2 b2 hs.2 (by rw [show j + 1 + (n + 1) = j + (n + 1 + 1) by omega]; exact ho) h2 hl' (fun out ex a2 w2 ho2 hne he2 => hk out ex a2 w2 ho2 hne ?_) fun s2 a2 w2 hJ2 hst2 hl2 => ?_
        · cases out <;> cases ex <;> simp only [yC] at he2 ⊢
          · exact ⟨htr2 _ _ _ he2.1, he2.2⟩
          · exact ⟨he2.1, htr2 _ _ _ he2.2.1, he2.2.2⟩
          · exact ⟨htr2 _ _ _ he2.1, he2.2⟩
        · have := hJ s2 a2 w2 (by rw [show j + (n + 1 + 1) = j + 1 + (n + 1) by omega]; exact hJ2) (htr2 _ _ _ hst2) hl2
          exact this
      · exact hk _ _ _ _ ho (fun s' h => by cases h) he
      · exact hk _ _ _ _ ho (fun s' h => by cases h) he
    | _ => simp [iL] at hs
end
end Go.Vs
namespace Go.Vs
variable {m : Bool} {P : Program}
theorem aBW : ∀ (j n : Nat) (c : Code), iL (j + n) c = true → iL j c = true ∧ iL n (sub c (way j)) = true
  | 0, n, c, h => ⟨rfl, by rw [show way 0 = [] from rfl, aJU]; simpa using h⟩
  | j + 1, n, .seq a b, h => by
    rw [show j + 1 + n = (j + n) + 1 by omega, iL, Bool.and_eq_true] at h
    obtain ⟨h1, h2⟩ := aBW j n b h.2
    exact ⟨by rw [iL, h.1, h1]; rfl, h2⟩
  | j + 1, n, .skip, h => by rw [show j + 1 + n = (j + n) + 1 by omega] at h; simp [iL] at h
  | j + 1, n, .region .., h => by rw [show j + 1 + n = (j + n) + 1 by omega] at h; simp [iL] at h
  | j + 1, n, .cond .., h => by rw [show j + 1 + n = (j + n) + 1 by omega] at h; simp [iL] at h
  | j + 1, n, .block .., h => by rw [show j + 1 + n = (j + n) + 1 by omega] at h; simp [iL] at h
  | j + 1, n, .loop _, h => by rw [show j + 1 + n = (j + n) + 1 by omega] at h; simp [iL] at h
  | j + 1, n, .rangeFunc .., h => by rw [show j + 1 + n = (j + n) + 1 by omega] at h; simp [iL] at h
  | j + 1, n, .exit _, h => by rw [show j + 1 + n = (j + n) + 1 by omega] at h; simp [iL] at h
  | j + 1, n, .ret, h => by rw [show j + 1 + n = (j + n) + 1 by omega] at h; simp [iL] at h
  | j + 1, n, .scope _, h => by rw [show j + 1 + n = (j + n) + 1 by omega] at h; simp [iL] at h
  | j + 1, n, .label _, h => by rw [show j + 1 + n = (j + n) + 1 by omega] at h; simp [iL] at h
  | j + 1, n, .goto _, h => by rw [show j + 1 + n = (j + n) + 1 by omega] at h; simp [iL] at h
  | j + 1, n, .refuse _, h => by rw [show j + 1 + n = (j + n) + 1 by omega] at h; simp [iL] at h
theorem aO4 : ∀ (j n : Nat) (c : Code), sub c (way (j + n)) = sub (sub c (way j)) (way n) := fun j n c => by
  rw [show way (j + n) = way j ++ way n from (List.replicate_append_replicate (n := j) (m := n) (a := 1)).symm, iM]
structure jB (P : Program) (fn : Func) (W : World) (N : Env) (s : St m) (a : Act) (w : World) (F : Fr) (Ow : Own) (bm : Nat → Nat) : Prop where
  inv : Inv P s a.tmps w F N Ow bm
  len : s.boxes.length = fn.ntmps
  defers : a.defers = []
  bel : Go.RowKit.Below W.heap.size W w
  own : ∀ g, g < W.heap.size → Ow g = none
  z : ∀ g, g < W.heap.size → N.Z g = false
abbrev aGl (W : World) : Ending → World → Prop := fun e w' => e = .returned (.bool true) ∧ Go.RowKit.Below W.heap.size W w'
abbrev yes : SV m × List (List (SV m)) := (.leaf (.bool true), [])
section
variable {D : bA m} {H : FuncId → eX} {f : FuncId} {fn : Func} {c0 : Code} {W : World} {N : Env} {s : St m} {a : Act} {w : World} {F : Fr} {Ow : Own} {bm : Nat → Nat}
theorem jB.step {s' : St m} {a' : Act} {w' : World} (h : jB P fn W N s a w F Ow bm) (hst : iU P N fn.ntmps s' a w F Ow bm a' w') (hl : s'.boxes.length = fn.ntmps) :
    ∃ F' Ow' bm', jB P fn W N s' a' w' F' Ow' bm' ∧ Far N w F Ow w' F' Ow' := by
  obtain ⟨F1, O1, b1, k1, k2, k3, k4⟩ := hst
  refine ⟨F1, O1, b1, ⟨k1, hl, k4.trans h.defers, h.bel.trans ⟨k2.os, k2.tape, k2.output, k2.size, fun g hg => ?_⟩, fun g hg => ?_, h.z⟩, k2⟩
  · exact (k2.old g (Nat.lt_of_lt_of_le hg h.bel.size) (h.own g hg)).1 (h.z g hg)
  · exact (k2.old g (Nat.lt_of_lt_of_le hg h.bel.size) (h.own g hg)).2.2
theorem jB.back {a' : Act} {w' : World} {ex : Exit} {out : Out m} (h : jB P fn W N s a w F Ow bm) (ho : aJx P fn 0 out = some yes) (he : yC P N fn.ntmps fn.ntmps a w F Ow bm out ex a' w') : bodyPost P fn (aGl W) ex a' w' := by
  replace ho := aI3 ho
  have fin : ∀ s' : St m, rE P fn 0 s' = some yes → iU P N fn.ntmps s' a w F Ow bm a' w' → s'.boxes.length = fn.ntmps → a'.defers = [] ∧ ∃ v, (results fn a'.tmps).run P w' = .ok v w' ∧ aGl W (.returned v) w' := by
    intro s' hl hst hlen
    obtain ⟨F1, O1, b1, k, _⟩ := h.step hst hlen
    obtain ⟨_, _, _, u, O2, F2, l4, l5, _⟩ := k.inv.leave hl
    refine ⟨k.defers, u, l4, ?_, k.bel⟩
    have := l5.slot 0
    have hv := nK (b := true) (w := w') (F := F2) (N := N) (by simpa [aP, cJ] using this)
    rw [hv]
  cases out <;> cases ex <;> simp only [yC] at he
  · exact fin _ ho he.1 he.2
  · simp [aNT] at ho
  · exact fin _ ho he.1 he.2
variable (hP : P.follows .mixedOrders = true) (hD : jU P N D) (hfn : P.funcs[f]? = some fn) (hc0 : fn.body = some c0)
include hP hD hfn hc0
omit hP hD in
theorem aFV : tN P f = c0 ∧ sN P f = fn := by
  unfold tN sN; rw [hfn]; simp [hc0]
theorem aHi {j n : Nat} (hsp : iL (j + (n + 1)) c0 = true) (h : jB P fn W N s a w F Ow bm) {s1 : St m}
    (hrun : ∀ J : List Nat × St m → Option (SV m × List (List (SV m))), uO P D H f [way (j + (n + 1))] 0 J (way j, s) = J (way (j + (n + 1)), s1))
    (next : ∀ a' w' F' Ow' bm', jB P fn W N s1 a' w' F' Ow' bm' → Far N w F Ow w' F' Ow' → (sub c0 (way (j + (n + 1)))).wp P (bodyPost P fn (aGl W)) a' w') :
    (sub c0 (way j)).wp P (bodyPost P fn (aGl W)) a w := by
  classical
  obtain ⟨e1, e2⟩ := aFV hfn hc0
  obtain ⟨hs1, hs2⟩ := aBW j (n + 1) c0 hsp
  have hr := hrun fun x => if x.2 = s1 then some yes else none
  simp only [if_true] at hr
  unfold uO at hr
  simp only [e1, e2, aCh] at hr
  rw [zR j [] c0 hs1, aCk j c0 hs1] at hr
  refine aGq (L := fn.ntmps) hP hD rfl (Nat.le_refl _) n j _ s a w F Ow bm hs2 hr h.inv h.len (fun out ex a' w' ho _ he => h.back ho he) fun s' a' w' hJ hst hl => ?_
  have : s' = s1 := by
    by_cases hx : s' = s1
    · exact hx
    · simp [hx] at hJ
  subst this
  obtain ⟨F1, O1, b1, k, kf⟩ := h.step hst hl
  rw [← aO4]
  exact next a' w' F1 O1 b1 k kf
theorem zK {j n : Nat} (hsp : iL (j + (n + 1)) c0 = true) (h : jB P fn W N s a w F Ow bm)
    (hrun : ∀ J : List Nat × St m → Option (SV m × List (List (SV m))), uO P D H f [way (j + (n + 1))] 0 J (way j, s) = some yes) :
    (sub c0 (way j)).wp P (bodyPost P fn (aGl W)) a w := by
  obtain ⟨e1, e2⟩ := aFV hfn hc0
  obtain ⟨hs1, hs2⟩ := aBW j (n + 1) c0 hsp
  have hr := hrun fun x => none
  unfold uO at hr
  simp only [e1, e2, aCh] at hr
  rw [zR j [] c0 hs1, aCk j c0 hs1] at hr
  exact aGq (L := fn.ntmps) hP hD rfl (Nat.le_refl _) n j _ s a w F Ow bm hs2 hr h.inv h.len (fun out ex a' w' ho _ he => h.back ho he) fun s' a' w' hJ _ _ => by simp at hJ
theorem aEv {j : Nat} (hsp : iL j c0 = true) (hnl : rG (sub c0 (way j)) = true) (h : jB P fn W N s a w F Ow bm)
    (hrun : ∀ J : List Nat × St m → Option (SV m × List (List (SV m))), uO P D H f [] 0 J (way j, s) = some yes) :
    (sub c0 (way j)).wp P (bodyPost P fn (aGl W)) a w := by
  obtain ⟨e1, e2⟩ := aFV hfn hc0
  have hr := hrun fun x => none
  unfold uO at hr
  simp only [e1, e2, aCh] at hr
  rw [zR j [] c0 hsp, aCk j c0 hsp, lK _ _ _ _ _ hnl (fun q => by simp)] at hr
  exact aBN (L := fn.ntmps) hP hD rfl (Nat.le_refl _) hr h.inv h.len fun out ex a' w' ho he => h.back ho he
end
end Go.Vs
end
section
namespace Go.Vs
variable {P : Program}
mutual
def tuF (φ : Fl true → Fl true) (σ : Fl true → Bool) : Bool → aB true → aB true
  | i, .bool b => if i then .unk else .bool b
  | i, .int k n => if i then .unk else .int k n
  | i, .str s => if i then .unk else .str s
  | _, .unk => .unk
  | i, .nl e => if i then .sl eM [] else .nl e
  | _, .sl c es => .sl (if σ c then eM else φ c) (tuE φ σ (σ c) es)
def tuL (φ : Fl true → Fl true) (σ : Fl true → Bool) : Bool → List (aB true) → List (aB true)
  | _, [] => []
  | i, l :: r => tuF φ σ i l :: tuL φ σ i r
def tuE (φ : Fl true → Fl true) (σ : Fl true → Bool) : Bool → List (List (aB true)) → List (List (aB true))
  | _, [] => []
  | i, e :: r => tuL φ σ i e :: tuE φ σ i r
end
variable {φ : Fl true → Fl true} {σ : Fl true → Bool}
theorem vR (i : Bool) : ∀ l : List (aB true), tuL φ σ i l = l.map (tuF φ σ i)
  | [] => by rw [tuL]; rfl
  | l :: r => by rw [tuL, List.map_cons, vR i r]
theorem aJG (i : Bool) : ∀ l : List (List (aB true)), tuE φ σ i l = l.map (tuL φ σ i)
  | [] => by rw [tuE]; rfl
  | l :: r => by rw [tuE, List.map_cons, aJG i r]
theorem zI (i : Bool) (l : List (aB true)) : (tuL φ σ i l).length = l.length := by rw [vR, List.length_map]
theorem aLD (i : Bool) (l : List (List (aB true))) : (tuE φ σ i l).length = l.length := by rw [aJG, List.length_map]
theorem aBF (i : Bool) : ∀ l : List (List (aB true)), (tuE φ σ i l).flatten = tuL φ σ i l.flatten
  | [] => by rw [tuE]; rfl
  | e :: r => by rw [tuE, List.flatten_cons, List.flatten_cons, aBF i r, vR, vR, vR, List.map_append]
theorem aOu (l : aB true) : (tuF φ σ true l).soft = true := by cases l <;> rfl
mutual
def aCz (p : Fl true → Bool) : aB true → Bool
  | .sl c es => p c && aIs p es
  | _ => true
def aAb (p : Fl true → Bool) : List (aB true) → Bool
  | [] => true
  | l :: r => aCz p l && aAb p r
def aIs (p : Fl true → Bool) : List (List (aB true)) → Bool
  | [] => true
  | e :: r => aAb p e && aIs p r
end
mutual
theorem aIW : ∀ l : aB true, aCz (fun _ => true) l = true
  | .sl c es => by rw [aCz, aF2 es]; rfl
  | .bool _ | .int _ _ | .str _ | .unk | .nl _ => by simp [aCz]
theorem aFZ : ∀ l : List (aB true), aAb (fun _ => true) l = true
  | [] => by rw [aAb]
  | l :: r => by rw [aAb, aIW l, aFZ r]; rfl
theorem aF2 : ∀ l : List (List (aB true)), aIs (fun _ => true) l = true
  | [] => by rw [aIs]
  | l :: r => by rw [aIs, aFZ l, aF2 r]; rfl
end
mutual
theorem aOY {m : Bool} {p : Fl true → Bool} {c : Fl true} (h : p c = true) : ∀ l : aB m, aCz p (reF (fun _ => c) l) = true
  | .sl _ es => by rw [reF, aCz, h, wI h es]; rfl
  | .bool _ | .int _ _ | .str _ | .unk | .nl _ => by simp [reF, aCz]
theorem aMz {m : Bool} {p : Fl true → Bool} {c : Fl true} (h : p c = true) : ∀ l : List (aB m), aAb p (reL (fun _ => c) l) = true
  | [] => by rw [reL, aAb]
  | l :: r => by rw [reL, aAb, aOY h l, aMz h r]; rfl
theorem wI {m : Bool} {p : Fl true → Bool} {c : Fl true} (h : p c = true) : ∀ l : List (List (aB m)), aIs p (reE (fun _ => c) l) = true
  | [] => by rw [reE, aIs]
  | l :: r => by rw [reE, aIs, aMz h l, wI h r]; rfl
end
theorem aId {p : Fl true → Bool} : ∀ {l : List (aB true)}, aAb p l = true → ∀ x ∈ l, aCz p x = true
  | y :: r, h, x, hx => by
    rw [aAb, Bool.and_eq_true] at h
    rcases List.mem_cons.1 hx with rfl | hx
    · exact h.1
    · exact aId h.2 x hx
theorem aLu {p : Fl true → Bool} : ∀ {l : List (List (aB true))}, aIs p l = true → ∀ x ∈ l.flatten, aCz p x = true
  | e :: r, h, x, hx => by
    rw [aIs, Bool.and_eq_true] at h
    rw [List.flatten_cons] at hx
    rcases List.mem_append.1 hx with hx | hx
    · exact aId h.1 x hx
    · exact aLu h.2 x hx
abbrev fl (c : Fl true) : Fl false → Fl true := fun _ => c
mutual
def soF : aB false → aB true
  | .bool _ => .unk
  | .int _ _ => .unk
  | .str _ => .unk
  | .unk => .unk
  | .nl _ => .sl eM []
  | .sl _ es => .sl eM (soE es)
def soL : List (aB false) → List (aB true)
  | [] => []
  | l :: r => soF l :: soL r
def soE : List (List (aB false)) → List (List (aB true))
  | [] => []
  | e :: r => soL e :: soE r
end
mutual
theorem aPA {c : Fl true} (h : σ c = false) : ∀ l : aB false, tuF φ σ false (reF (fl c) l) = reF (fl (φ c)) l
  | .sl _ es => by rw [reF, tuF, h, aBl h es, reF]; rfl
  | .bool _ | .int _ _ | .str _ | .unk | .nl _ => by simp [reF, tuF]
theorem aNM {c : Fl true} (h : σ c = false) : ∀ l : List (aB false), tuL φ σ false (reL (fl c) l) = reL (fl (φ c)) l
  | [] => by rw [reL, tuL, reL]
  | l :: r => by rw [reL, tuL, aPA h l, aNM h r, reL]
theorem aBl {c : Fl true} (h : σ c = false) : ∀ l : List (List (aB false)), tuE φ σ false (reE (fl c) l) = reE (fl (φ c)) l
  | [] => by rw [reE, tuE, reE]
  | l :: r => by rw [reE, tuE, aNM h l, aBl h r, reE]
end
mutual
theorem aPe {c : Fl true} (h : σ c = true) : ∀ l : aB false, tuF φ σ true (reF (fl c) l) = soF l
  | .sl _ es => by rw [reF, tuF, h, aLC h es, soF]; rfl
  | .bool _ | .int _ _ | .str _ | .unk | .nl _ => by simp [reF, tuF, soF]
theorem aN6 {c : Fl true} (h : σ c = true) : ∀ l : List (aB false), tuL φ σ true (reL (fl c) l) = soL l
  | [] => by rw [reL, tuL, soL]
  | l :: r => by rw [reL, tuL, aPe h l, aN6 h r, soL]
theorem aLC {c : Fl true} (h : σ c = true) : ∀ l : List (List (aB false)), tuE φ σ true (reE (fl c) l) = soE l
  | [] => by rw [reE, tuE, soE]
  | l :: r => by rw [reE, tuE, aN6 h l, aLC h r, soE]
end
mutual
def saL : List (aB false) → List (aB true)
  | [] => []
  | l :: r => saF l :: saL r
def saF : aB false → aB true
  | .bool b => .bool b
  | .int k n => .int k n
  | .str s => .str s
  | .unk => .unk
  | .nl e => .nl e
  | .sl _ es => .sl eM (soE es)
end
def aNk (p : Fl true → Bool) (φ : Fl true → Fl true) (σ : Fl true → Bool) (w : World) (F : Fr) (N : Env) (F' : Fr) (N' : Env) : Prop :=
  ∀ (c : Fl true) (g o : Nat), p c = true → g < w.heap.size → 0 < F g → c.Holds N w g o → F g ≤ F' g ∧ ((σ c = true ∧ N'.Z g = true) ∨ (σ c = false ∧ (φ c).Holds N' w g o ∧ (φ c).isSoft = false ∧ N'.Z g = false))
theorem dJ.tu {p : Fl true → Bool} {w : World} {F F' : Fr} {N N' : Env} (hok : aNk p φ σ w F N F' N') {l : aB true} {v : Value} (h : dJ w F N l v) : aCz p l = true → ∀ i, dJ w F' N' (tuF φ σ i l) v := by
  induction h with
  | bool b => intro _ i; cases i <;> simp only [tuF] <;> first | exact .bool b | exact .unk _ rfl
  | int k n => intro _ i; cases i <;> simp only [tuF] <;> first | exact .int k n | exact .unk _ rfl
  | str s => intro _ i; cases i <;> simp only [tuF] <;> first | exact .str s | exact .unk _ rfl
  | unk v h => intro _ i; rw [tuF]; exact .unk v h
  | nl e =>
    intro _ i
    cases i <;> simp only [tuF]
    · exact .nl e
    · exact kK (es := []) (z := 0) (vals := []) (Nat.le_refl _) (by simp) (fun h => by simp at h) (cE.nil _ _ _)
  | sl c es A cap z vals hc hz hv hcell hr ih =>
    intro hp i
    rw [aCz, Bool.and_eq_true] at hp
    rw [tuF]
    have hl : (tuE φ σ (σ c) es).length = es.length := aLD _ es
    rw [← hl]
    refine .sl _ _ A cap z vals (by rw [hl]; exact hc) (fun e he => ?_) (by rw [hl]; exact hv) (fun hpos => ?_) (fun j l v h1 h2 => ?_)
    · rw [aJG] at he
      obtain ⟨e0, he0, rfl⟩ := List.mem_map.1 he
      rw [zI]; exact hz e0 he0
    · rw [hl] at hpos
      obtain ⟨g, o, e, ⟨hv0, hn⟩, hle, hso, hcl⟩ := hcell hpos
      obtain ⟨h1, h2⟩ := hok c g o hp.1 (aKb (hcl 0 _ (List.getElem?_eq_getElem hv0))) (by omega) hn
      rcases h2 with ⟨hs, hZ⟩ | ⟨hs, hH, hS, hZ⟩
      · refine ⟨g, o, e, ⟨hv0, by rw [hs]; trivial⟩, Nat.le_trans hle h1, ⟨fun _ => hZ, fun _ l hl' => ?_⟩, hcl⟩
        rw [aBF, vR, hs] at hl'
        obtain ⟨l0, _, rfl⟩ := List.mem_map.1 hl'
        exact aOu l0
      · refine ⟨g, o, e, ⟨hv0, by rw [hs]; exact hH⟩, Nat.le_trans hle h1, ⟨fun h => ?_, fun h => by rw [hZ] at h; simp at h⟩, hcl⟩
        rw [hs] at h
        simp only [Bool.false_eq_true, if_false] at h
        rw [hS] at h; simp at h
    · rw [aBF, vR, List.getElem?_map, Option.map_eq_some_iff] at h1
      obtain ⟨l0, hl0, rfl⟩ := h1
      exact ih j l0 v hl0 h2 (aLu hp.2 l0 (List.mem_of_getElem? hl0)) _
theorem cE.tu {p : Fl true → Bool} {w : World} {F F' : Fr} {N N' : Env} (hok : aNk p φ σ w F N F' N') {ls : List (aB true)} {vs : List Value} (h : cE w F N ls vs) (hp : aAb p ls = true) (i : Bool) : cE w F' N' (tuL φ σ i ls) vs := by
  refine ⟨by rw [zI, h.1], fun j l v h1 h2 => ?_⟩
  rw [vR, List.getElem?_map, Option.map_eq_some_iff] at h1
  obtain ⟨l0, hl0, rfl⟩ := h1
  exact dJ.tu hok (h.2 j l0 v hl0 h2) (aId hp l0 (List.mem_of_getElem? hl0)) i
def tuS (φ : Fl true → Fl true) (σ : Fl true → Bool) : SV true → SV true
  | .leaf l => .leaf (tuF φ σ false l)
  | .own _ es => .leaf (tuF φ σ false (.sl (Fl.new true) es))
  | .agg cs => .agg (tuL φ σ false cs)
  | _ => .any
def aDg (p : Fl true → Bool) : SV true → Bool
  | .leaf l => aCz p l
  | .own _ es => p (Fl.new true) && aIs p es
  | .agg cs => aAb p cs
  | _ => true
theorem aOI {p : Fl true → Bool} {w : World} {F F' : Fr} {N N' : Env} (hok : aNk p φ σ w F N F' N') {Ow Ow' : Own} {bm bm' : Nat → Nat} {al al' : Nat → Bool} {loc loc' : Loc} {x : SV true} {v : Value} (hx : aDg p x = true) (h : aP P w F N Ow bm al loc x v) :
    aP P w F' N' Ow' bm' al' loc' (tuS φ σ x) v := by
  cases x with
  | leaf l => exact aP.leaf (dJ.tu hok (show dJ w F N l v by simpa [aP, cJ] using h) hx false)
  | own e es => exact aP.leaf (dJ.tu hok (jR.leaf h) (by rw [aCz]; exact hx) false)
  | agg cs =>
    obtain ⟨vs, e, hr⟩ : ∃ vs, v = .agg vs ∧ cE w F N cs vs.toList := by simpa [aP, cJ] using h
    have h2 : ∃ vs, v = .agg vs ∧ cE w F' N' (tuL φ σ false cs) vs.toList := ⟨vs, e, cE.tu hok hr hx false⟩
    simpa [tuS, aP, cJ] using h2
  | _ => exact aP.any
abbrev tQ : Fl true := mV.tag 3 false
def aM5 : Fl true → Bool := fun c => match c with | mV.tag 3 _ => true | _ => false
def tuB (φ : Fl true → Fl true) (σ : Fl true → Bool) (bs : fG true) : SV true → SV true
  | .ptr b o => match (aR bs b).bind bX with
    | some (l :: ls) => .eptr tQ (tuL φ σ false (l :: ls)) o
    | _ => .any
  | .eptr c e o => if aM5 c then .eptr tQ (tuL φ σ false e) o else .any
  | x => tuS φ σ x
def oV (p : Fl true → Bool) (bs : fG true) : SV true → Bool
  | .ptr b _ => match (aR bs b).bind bX with
    | some ls => aAb p ls
    | none => true
  | .eptr c e _ => !(aM5 c) || aAb p e
  | x => aDg p x
theorem aNP {bs : fG true} {b : Nat} {o : Nat} {ls : List (aB true)} (h : (aR bs b).bind bX = some ls) (hne : ls ≠ []) : tuB φ σ bs (.ptr b o) = .eptr tQ (tuL φ σ false ls) o := by
  cases ls with
  | nil => exact absurd rfl hne
  | cons l ls => simp only [tuB, h]
theorem aNG {bs : fG true} {b : Nat} {o : Nat} (h : (aR bs b).bind bX = some []) : tuB φ σ bs (.ptr b o) = .any := by
  simp only [tuB, h]
theorem aOt {bs : fG true} {b : Nat} {o : Nat} (h : (aR bs b).bind bX = none) : tuB φ σ bs (.ptr b o) = .any := by
  simp only [tuB, h]
theorem aJ2 {p : Fl true → Bool} {bs : fG true} {b : Nat} {o : Nat} {ls : List (aB true)} (h : (aR bs b).bind bX = some ls) : oV p bs (.ptr b o) = aAb p ls := by
  simp only [oV, h]
def aAt (F : Fr) (w : World) : Fr := fun g => max (F g) (qO w g)
theorem nD (F : Fr) (w : World) (g : Nat) : F g ≤ aAt F w g := Nat.le_max_left _ _
theorem aCg {F : Fr} {w : World} {g : Nat} (h : F g = 0) (hg : w.heap.size ≤ g) : aAt F w g = 0 := by
  unfold aAt qO
  rw [h, Array.getElem?_eq_none hg]; rfl
theorem aMV {F : Fr} {w : World} {g : Nat} {cur : Array Value} {e : TypeId} {k : Nat × Nat} (h : w.heap[g]? = some (.cells cur e k)) : cur.size ≤ aAt F w g := by
  unfold aAt qO
  rw [h]; exact Nat.le_max_right _ _
structure aOb (bs : fG true) (bm : Nat → Nat) (F : Fr) (N : Env) (F' : Fr) (N' : Env) : Prop where
  box : ∀ b cs, aR bs b = some cs → cs ≠ [] → cs.length ≤ F' (bm b) ∧ N'.T 3 (bm b) = true ∧ N'.Z (bm b) = false
  row : ∀ g, N.T 3 g = true → F g ≤ F' g ∧ N'.T 3 g = true ∧ N'.Z g = false
theorem aMG {fn : Func} {W : World} {N N' : Env} {s : St true} {a : Act} {w : World} {F F' : Fr} {Ow : Own} {bm : Nat → Nat} (h : jB P fn W N s a w F Ow bm) {p : Fl true → Bool} (hok : aNk p φ σ w F N F' N') (hb : aOb s.boxes bm F N F' N') {Ow' : Own} {bm' : Nat → Nat} {al' : Nat → Bool} {loc loc' : Loc} {x : SV true} {v : Value}
    (hx : oV p s.boxes x = true) (hr : aP P w F N Ow bm (fun b => (aR s.boxes b).isSome) loc x v) : aP P w F' N' Ow' bm' al' loc' (tuB φ σ s.boxes x) v := by
  cases x with
  | ptr b o =>
    cases hl : (aR s.boxes b).bind bX with
    | none => rw [aOt hl]; exact aP.any
    | some ls =>
      by_cases hl0 : ls = []
      · subst hl0; rw [aNG hl]; exact aP.any
      rw [aNP hl hl0]
      rw [aJ2 hl] at hx
      obtain ⟨cs, hcs, hls⟩ := Option.bind_eq_some_iff.1 hl
      have hne : cs ≠ [] := by rintro rfl; simp [bX] at hls; exact hl0 hls
      have hv : v = .pointer (some ⟨bm b, o, none⟩) ∧ (aR s.boxes b).isSome = true := by simpa only [aP, cJ] using hr
      obtain ⟨vals, h0, h1, hrr⟩ : ∃ vals : List Value, vals.length = cs.length ∧ (∀ (j : Nat) (u : Value), vals[j]? = some u → w.cell? ⟨bm b, j, none⟩ = some u) ∧ cE w F N ls vals := by
        rcases h.inv.box b cs hcs with rfl | ⟨cur, et, h1, h2, h3, h4, h5⟩
        · simp [bX] at hls; subst hls; exact ⟨[], rfl, by simp, cE.nil _ _ _⟩
        · have hcl := Array.length_toList (xs := cur)
          refine ⟨cur.toList.take cs.length, by rw [List.length_take]; omega, fun j u hj => ?_, uK (P := P) (Ow := Ow) (bm := bm) (al := fun b => (aR s.boxes b).isSome) cs _ ls (fun j => .box b j) hls (by rw [List.length_take]; omega) fun j c u hc hu => ?_⟩
          · rw [List.getElem?_take] at hj
            split at hj
            · rw [pA h1]; simpa using hj
            · simp at hj
          · rw [List.getElem?_take] at hu
            split at hu
            · exact h5 j c u hc (by simpa using hu)
            · simp at hu
      obtain ⟨q1, q2, q3⟩ := hb.box b cs hcs hne
      have hr2 := cE.tu hok hrr hx false
      have goal : cJ (m := true) w F' N' bm' al' (.eptr tQ (tuL φ σ false ls) o) v := by
        refine ⟨bm b, 0, vals, by rw [hv.1, Nat.zero_add], ?_, ⟨q2, fun hz => by rw [q3] at hz; simp at hz⟩, hr2, fun j u hj => ?_⟩
        · have := hrr.1; rw [zI, Nat.zero_add]; omega
        · rw [Nat.zero_add]; exact h1 j u hj
      simpa only [aP] using goal
  | eptr c e o =>
    cases hte : aM5 c with
    | false =>
      rw [show tuB φ σ s.boxes (.eptr c e o) = .any by simp only [tuB, hte]; rfl]
      exact aP.any
    | true =>
      rw [show tuB φ σ s.boxes (.eptr c e o) = .eptr tQ (tuL φ σ false e) o by simp only [tuB, hte]; rfl]
      have hp : aAb p e = true := by simpa [oV, hte] using hx
      obtain ⟨g, q, vals, hz, hle, hso, hrr, hc⟩ : ∃ g q vals, v = .pointer (some ⟨g, q + o, none⟩) ∧ q + e.length ≤ F g ∧ (c.At N g ∧ (N.Z g = true → ∀ l ∈ e, l.soft = true)) ∧ cE w F N e vals ∧ ∀ (j : Nat) (u : Value), vals[j]? = some u → w.cell? ⟨g, q + j, none⟩ = some u := by simpa only [aP, cJ] using hr
      have ht : N.T 3 g = true := by
        cases c with
        | tag k f =>
          have hk : k = 3 := by
            rcases k with _ | _ | _ | _ | k <;> first | rfl | cases hte
          subst hk; exact hso.1
        | _ => cases hte
      obtain ⟨q1, q2, q3⟩ := hb.row g ht
      have goal : cJ (m := true) w F' N' bm' al' (.eptr tQ (tuL φ σ false e) o) v := by
        refine ⟨g, q, vals, hz, ?_, ⟨q2, fun hz => by rw [q3] at hz; simp at hz⟩, cE.tu hok hrr hp false, hc⟩
        rw [zI]; omega
      simpa only [aP] using goal
  | _ => first | exact aP.any | (simp only [tuB]; exact aOI hok (by simpa only [oV] using hx) hr)
def tuT (φ : Fl true → Fl true) (σ : Fl true → Bool) (bs : fG true) (ds : List Nat) : Nat → List (SV true) → List (SV true)
  | _, [] => []
  | i, x :: r => (if ds.contains i then .any else tuB φ σ bs x) :: tuT φ σ bs ds (i + 1) r
theorem zC {bs : fG true} (ds : List Nat) : ∀ (i : Nat) (l : List (SV true)), (tuT φ σ bs ds i l).length = l.length
  | _, [] => rfl
  | i, x :: r => by rw [tuT, List.length_cons, List.length_cons, zC ds (i + 1) r]
theorem aKd {bs : fG true} (ds : List Nat) : ∀ (i : Nat) (l : List (SV true)) (t : Nat), (tuT φ σ bs ds i l).getD t .any = .any ∨ (ds.contains (i + t) = false ∧ (tuT φ σ bs ds i l).getD t .any = tuB φ σ bs (l.getD t .any))
  | i, [], t => by left; simp [tuT]
  | i, x :: r, 0 => by
    cases h : ds.contains i with
    | true => left; simp only [tuT, h, if_true]; rfl
    | false => right; exact ⟨rfl, by simp only [tuT, h]; rfl⟩
  | i, x :: r, t + 1 => by
    have := aKd (bs := bs) ds (i + 1) r t
    rw [show i + 1 + t = i + (t + 1) by omega] at this
    simpa [tuT] using this
def turn (φ : Fl true → Fl true) (σ : Fl true → Bool) (ds : List Nat) (s : St true) : St true := { tmps := tuT φ σ s.boxes ds 0 s.tmps, boxes := s.boxes.map fun _ => none }
def kF (p : Fl true → Bool) (bs : fG true) (ds : List Nat) : Nat → List (SV true) → Bool
  | _, [] => true
  | i, x :: r => (ds.contains i || oV p bs x) && kF p bs ds (i + 1) r
theorem aBg {p : Fl true → Bool} {bs : fG true} (ds : List Nat) : ∀ (i : Nat) (l : List (SV true)) (t : Nat), kF p bs ds i l = true → ds.contains (i + t) = false → oV p bs (l.getD t .any) = true
  | _, [], t, _, _ => by simp [oV, aDg]
  | i, x :: r, 0, h, hd => by
    simp only [kF, Bool.and_eq_true] at h
    rw [Nat.add_zero] at hd
    have := h.1; rw [hd] at this; simpa using this
  | i, x :: r, t + 1, h, hd => by
    simp only [kF, Bool.and_eq_true] at h
    have := aBg ds (i + 1) r t h.2 (by rw [show i + 1 + t = i + (t + 1) by omega]; exact hd)
    simpa using this
theorem aDW (bs : fG true) (b : Nat) : aR (m := true) (bs.map fun _ => none) b = none := by
  unfold aR
  rw [List.getD_eq_getElem?_getD, List.getElem?_map]
  cases bs[b]? <;> rfl
section
variable {fn : Func} {W : World} {N N' : Env} {s : St true} {a : Act} {w : World} {F F' : Fr} {Ow : Own} {bm : Nat → Nat}
theorem jB.turn (h : jB P fn W N s a w F Ow bm) (φ : Fl true → Fl true) (σ : Fl true → Bool) (ds : List Nat) (p : Fl true → Bool) (hsl : kF p s.boxes ds 0 s.tmps = true) (hok : aNk p φ σ w F N F' N') (hbx : aOb s.boxes bm F N F' N') (hn : N'.n ≤ w.heap.size) (hF : ∀ g, w.heap.size ≤ g → F' g = 0) (hKK : N'.K = N.K) (hle : ∀ g, F g ≤ F' g) (hKZ : ∀ k ∈ N.K, N'.Z k.1.1 = false)
    (hz : ∀ g, N'.Z g = true → W.heap.size ≤ g ∧ jV w g) (hBB : N'.B = [] := by rfl) : jB P fn W N' (turn φ σ ds s) a w F' (fun _ => none) (fun _ => w.heap.size) := by
  refine ⟨⟨by show (tuT φ σ s.boxes ds 0 s.tmps).length = _; rw [zC]; exact h.inv.len, fun t => ?_, fun b cs hb => ?_, ⟨hn, fun k hk => by
    rw [hKK] at hk
    obtain ⟨h1, h2, h3⟩ := h.inv.low.know k hk
    exact ⟨Nat.lt_of_lt_of_le h1 (hle _), hKZ k hk, h3⟩, fun k hk => by rw [hBB] at hk; cases hk⟩, fun g hg => ⟨hF g hg, rfl⟩, fun b cs hb => ?_, fun g hg => ⟨rfl, (hz g hg).2⟩⟩, by show (s.boxes.map _).length = _; rw [List.length_map]; exact h.len, h.defers, h.bel, fun _ _ => rfl, fun g hg => ?_⟩
  · show aP P w F' N' _ _ _ _ ((tuT φ σ s.boxes ds 0 s.tmps).getD t .any) _
    rcases aKd (φ := φ) (σ := σ) ds 0 s.tmps t with h1 | ⟨h0, h1⟩
    · rw [h1]; exact aP.any
    · rw [h1]
      exact aMG h hok hbx (aBg ds 0 s.tmps t hsl h0) (h.inv.slot t)
  · rw [show (Vs.turn φ σ ds s).boxes = s.boxes.map fun _ => none from rfl, aDW] at hb; simp at hb
  · rw [show (Vs.turn φ σ ds s).boxes = s.boxes.map fun _ => none from rfl, aDW] at hb; simp at hb
  · cases hZ : N'.Z g with
    | false => rfl
    | true => have := (hz g hZ).1; omega
def aKZ (s : St true) (t z n k : Nat) : St true := { tmps := s.tmps.set t (.bsl t z 0 n), boxes := s.boxes.set t (some (List.replicate k .any)) }
theorem jB.row (h : jB P fn W N s a w F Ow bm) (φ : Fl true → Fl true) (ds : List Nat) (p : Fl true → Bool) {t : Nat} (ht : t < s.tmps.length) (ht2 : t < fn.ntmps) {c : Fl true} {es : List (List (aB true))} {z : Nat}
    (hslot : s.tmps.getD t .any = .leaf (.sl c es)) (hpos : 0 < es.length) (hez : ∀ e ∈ es, e.length = z) (hsl : kF p s.boxes ds 0 s.tmps = true)
    (hc : ∀ g o, g < w.heap.size → c.Holds N w g o → o = 0 ∧ jV w g ∧ N'.n ≤ g ∧ W.heap.size ≤ g ∧ ∀ c' o', p c' = true → ¬ c'.Holds N w g o')
    (hp : ∀ c g o, p c = true → c.Holds N w g o → (φ c).Holds N' w g o ∧ (φ c).isSoft = false)
    (hbx : ∀ g, g < w.heap.size → 0 < F g → c.Holds N w g 0 → aOb s.boxes bm F N (fun x => if x = g then 0 else aAt F w x) N') (hZ : ∀ g, N'.Z g = false) (hn : N'.n ≤ w.heap.size) (hKK : N'.K = N.K) (hKw : ∀ k ∈ N.K, k.1.1 < W.heap.size) (hBB : N'.B = [] := by rfl) :
    ∃ k F' Ow' bm', es.length * z ≤ k ∧ jB P fn W N' (aKZ (Vs.turn φ (fun _ => false) ds s) t z es.length k) a w F' Ow' bm' := by
  have hs := h.inv.slot t
  rw [hslot] at hs
  obtain ⟨A, cap, z', vals, hv, hcap, hz', hvl, hcell, hr⟩ := aEi (show dJ w F N (.sl c es) (a.tmps.getD t undef) by simpa [aP, cJ] using hs)
  obtain ⟨g, o, rfl, ⟨hv0, hH⟩, hle, hso, hcl⟩ := hcell hpos
  have hzz : z' = z := by
    obtain ⟨e, he⟩ : ∃ e, e ∈ es := by cases es with | nil => simp at hpos | cons e r => exact ⟨e, by simp⟩
    rw [← hz' e he, hez e he]
  subst hzz
  have hg := aKb (hcl 0 _ (List.getElem?_eq_getElem hv0))
  obtain ⟨rfl, ⟨cur, et, hcur⟩, hn1, hn2, hne⟩ := hc g o hg hH
  have hk : es.length * z' ≤ cur.size := by
    rw [← hvl]
    have := hcl (vals.length - 1) _ (List.getElem?_eq_getElem (by omega))
    simp only [World.cell?, hcur] at this
    have := (Array.getElem?_eq_some_iff.1 (by simpa using this)).1
    omega
  have hok : aNk p φ (fun _ => false) w F N (fun x => if x = g then 0 else aAt F w x) N' := by
    intro c' g' o' hp' hg' _ hH'
    have hgg : g' ≠ g := fun e => (hne c' o' hp') (e ▸ hH')
    obtain ⟨h1, h2⟩ := hp c' g' o' hp' hH'
    exact ⟨by simp [hgg, nD], .inr ⟨rfl, h1, h2, hZ g'⟩⟩
  have hb : ∀ b cs, aR (aKZ (Vs.turn φ (fun _ => false) ds s) t z' es.length cur.size).boxes b = some cs → b = t ∧ cs = List.replicate cur.size .any := by
    intro b cs hb
    have hb' : aR ((s.boxes.map fun _ => none).set t (some (List.replicate cur.size SV.any))) b = some cs := hb
    by_cases hbt : b = t
    · subst hbt
      rw [dO (by rw [List.length_map, h.len]; exact ht2)] at hb'
      exact ⟨rfl, (Option.some.inj hb').symm⟩
    · rw [gF hbt, aDW] at hb'; simp at hb'
  have hal : (aR (aKZ (Vs.turn φ (fun _ => false) ds s) t z' es.length cur.size).boxes t).isSome = true := by
    show (aR ((s.boxes.map fun _ => none).set t (some (List.replicate cur.size SV.any))) t).isSome = true
    rw [dO (by rw [List.length_map, h.len]; exact ht2)]; rfl
  refine ⟨cur.size, fun x => if x = g then 0 else aAt F w x, fun x => if x = g then some (.blk t) else none, fun _ => g, hk, ⟨⟨?_, fun u => ?_, fun b cs hbc => ?_, ⟨hn, fun k hk => by
    rw [hKK] at hk
    obtain ⟨h1, h2, h3⟩ := h.inv.low.know k hk
    have hne : k.1.1 ≠ g := fun e => by have := hKw k hk; omega
    exact ⟨by simp only [if_neg hne]; exact Nat.lt_of_lt_of_le h1 (nD F w _), hZ _, h3⟩, fun k hk => by rw [hBB] at hk; cases hk⟩, fun x hx => ?_, fun b cs hbc => hn1, fun x hx => by rw [hZ] at hx; simp at hx⟩, ?_, h.defers, h.bel, fun x hx => ?_, fun x hx => hZ x⟩⟩
  · show ((tuT φ (fun _ => false) s.boxes ds 0 s.tmps).set t _).length = _
    rw [List.length_set, zC]; exact h.inv.len
  · show aP P w _ N' _ _ _ _ (((tuT φ (fun _ => false) s.boxes ds 0 s.tmps).set t (.bsl t z' 0 es.length)).getD u .any) _
    by_cases hut : u = t
    · subst hut
      rw [List.getD_eq_getElem?_getD, List.getElem?_set_self (by rw [zC]; exact ht), Option.getD_some, hv]
      simp only [aP, cJ]
      exact ⟨.inr ⟨cap, by simp, hcap⟩, hal⟩
    · rw [List.getD_eq_getElem?_getD, List.getElem?_set_ne (fun e => hut e.symm), ← List.getD_eq_getElem?_getD]
      rcases aKd (φ := φ) (σ := fun _ => false) ds 0 s.tmps u with h1 | ⟨h0, h1⟩
      · rw [h1]; exact aP.any
      · rw [h1]
        exact aMG h hok (hbx g hg (by omega) hH) (aBg ds 0 s.tmps u hsl h0) (h.inv.slot u)
  · obtain ⟨rfl, rfl⟩ := hb b cs hbc
    refine .inr ⟨cur, et, hcur, by rw [List.length_replicate]; exact Nat.le_refl _, by simp, by simp, fun j c u h1 _ => ?_⟩
    have : c = .any := by
      rw [List.getElem?_replicate] at h1
      split at h1 <;> simp at h1
      exact h1.symm
    subst this
    exact aP.any
  · have hx' : x ≠ g := fun e => by subst e; omega
    simp [hx', aCg (h.inv.new x hx).1 hx]
  · show ((s.boxes.map _).set t _).length = _
    rw [List.length_set, List.length_map]; exact h.len
  · have : x ≠ g := fun e => by subst e; omega
    simp [this]
end
end Go.Vs
end
section
set_option linter.unusedVariables false
namespace Go.Vs
variable {m : Bool} {P : Program} {f : FuncId} {fn : Func} {c0 : Code}
theorem aPx (hfn : P.funcs[f]? = some fn) (hc0 : fn.body = some c0) {args : List (SV m)} {W : World} {vals : Array Value} {K : vZ} (hl : args.length = vals.size) (hh : args.all SV.handed = true)
    (hr : ∀ j a v, args[j]? = some a → vals[j]? = some v → aP P W (qO W) (N0 W K) (fun _ => none) (fun _ => W.heap.size) (fun _ => false) (.tmp j) a v)
    (next : ∀ a : Act, jB P fn W (N0 W K) (xA fn args []) a W (qO W) (fun _ => none) (fun _ => W.heap.size) → (sub c0 (way 0)).wp P (bodyPost P fn (aGl W)) a W) (hK : KOk W K := by exact KOk.nil) : Calls P f vals W (aGl W) := by
  refine calls_of_wp hfn hc0 ?_
  have hinv : Inv P { tmps := args, boxes := ([] : List (List (SV m))).map some } vals W (qO W) (N0 W K) (fun _ => none) (fun _ => W.heap.size) := by
    refine ⟨hl, fun t => ?_, fun b cs hb => ?_, hK.low, fun g hg => ⟨?_, rfl⟩, fun b cs hb => ?_, fun g hg => ?_⟩
    · by_cases ht : t < args.length
      · have := hr t _ _ (List.getElem?_eq_getElem ht) (Array.getElem?_eq_getElem (by omega))
        simp only [List.getD, List.getElem?_eq_getElem ht, Option.getD_some, Array.getD, show t < vals.size by omega, dif_pos]
        exact this.keeps (dQ.refl _ _) (fun b hb => by simp at hb) (fun g hg => by simp at hg)
      · simp only [List.getD, List.getElem?_eq_none (Nat.not_lt.1 ht), Option.getD_none]
        exact aP.any
    · simp [aR] at hb
    · unfold qO
      rw [Array.getElem?_eq_none hg]
    · simp [aR] at hb
    · simp [N0] at hg
  have h1 := hinv.frame fn hh (by simp)
  have := next { tmps := vals ++ Array.replicate (fn.ntmps - vals.size) undef, defers := [] } ⟨by simpa using h1, by simp [xA], rfl, Go.RowKit.Below.refl _ _, fun _ _ => rfl, fun _ _ => rfl⟩
  rw [show way 0 = [] from rfl, aJU] at this
  exact this
def N1 (A : Nat) (K : vZ := []) : Env := { K := K, n := A, Z := fun _ => false, lt := fun g h => by simp at h, T := fun k g => (k == 0 || k == 3) && decide (g < A) }
def N2 (A B : Nat) (F2 : Fr) (K : vZ := []) : Env := { K := K, n := B, Z := fun _ => false, lt := fun g h => by simp at h, T := fun k g => (k == 0 && decide (g < A)) || (k == 1 && decide (A ≤ g ∧ g < B ∧ 0 < F2 g)) || (k == 3 && decide (g < B ∧ ¬ (A ≤ g ∧ 0 < F2 g))) }
open Classical in
noncomputable def N3 (w : World) (A B : Nat) (F2 F3 : Fr) (hB : B ≤ w.heap.size) (K : vZ := []) : Env := { K := K, n := w.heap.size, Z := fun g => decide (A ≤ g ∧ g < B ∧ 0 < F2 g ∧ jV w g), lt := fun g h => by have := of_decide_eq_true h; omega, T := fun k g => (k == 0 && decide (g < A)) || (k == 2 && decide (B ≤ g ∧ 0 < F3 g)) || (k == 3 && decide (g < w.heap.size ∧ ¬ (B ≤ g ∧ 0 < F3 g) ∧ ¬ (A ≤ g ∧ g < B ∧ 0 < F2 g))) }
def N4 (A B : Nat) (R : Nat → Bool) (K : vZ := []) : Env := { K := K, n := B, Z := fun _ => false, lt := fun g h => by simp at h, T := fun k g => (k == 0 && decide (g < A)) || (k == 3 && R g) }
abbrev tA : Fl true := mV.tag 0 false
abbrev tX : Fl true := mV.tag 1 true
abbrev tG : Fl true := mV.tag 2 true
def φ1 : Fl true → Fl true := fun _ => tA
def φ2 : Fl true → Fl true := fun c => match c with | mV.new => tX | _ => tA
def φ3 : Fl true → Fl true := fun c => match c with | mV.new => tG | _ => tA
def σ3 : Fl true → Bool := fun c => match c with | mV.tag 1 _ => true | _ => false
def φ4 : Fl true → Fl true := fun _ => tA
def p4 : Fl true → Bool := fun c => match c with | mV.tag 0 _ => true | _ => false
def p2 : Fl true → Bool := fun c => match c with | mV.new => true | mV.tag 0 _ => true | _ => false
def p3 : Fl true → Bool := fun c => match c with | mV.new => true | mV.tag 0 _ => true | mV.tag 1 f => f | _ => false
theorem aEU (bs : fG true) (ds : List Nat) : ∀ (i : Nat) (l : List (SV true)), kF (fun _ => true) bs ds i l = true
  | _, [] => rfl
  | i, x :: r => by
    rw [kF, aEU bs ds (i + 1) r]
    cases x <;> simp only [oV, aDg, aIW, aF2, aFZ, Bool.or_true, Bool.and_true]
    · split <;> simp
section
variable {W w : World} {N : Env} {s : St true} {a : Act} {F : Fr} {Ow : Own} {bm : Nat → Nat}
theorem jB.box_lt (h : jB P fn W N s a w F Ow bm) {b : Nat} {cs : List (SV true)} (hb : aR s.boxes b = some cs) (hne : cs ≠ []) : bm b < w.heap.size ∧ F (bm b) = 0 ∧ N.n ≤ bm b ∧ cs.length ≤ aAt F w (bm b) := by
  obtain ⟨cur, et, h1, h2, h3, _⟩ := (h.inv.box b cs hb).resolve_left hne
  exact ⟨(Array.getElem?_eq_some_iff.1 h1).1, h3, h.inv.bmn b cs hb, Nat.le_trans h2 (aMV h1)⟩
theorem aPS {K : vZ} (h : jB P fn W N s a w F Ow bm) (hN : ∀ g, N.T 3 g = false) (ds : List Nat) (hNK : N.K = K := by rfl) : jB P fn W (N1 w.heap.size K) (Vs.turn φ1 (fun _ => false) ds s) a w (aAt F w) (fun _ => none) (fun _ => w.heap.size) :=
  h.turn φ1 (fun _ => false) ds (fun _ => true) (aEU _ _ _ _) (fun c g o _ hg _ _ => ⟨nD F w g, .inr ⟨rfl, ⟨by simp [N1, hg], fun h => by cases h⟩, rfl, rfl⟩⟩)
    ⟨fun b cs hb hne => ⟨(h.box_lt hb hne).2.2.2, by simp [N1, (h.box_lt hb hne).1], rfl⟩, fun g hg => by rw [hN] at hg; cases hg⟩
    (Nat.le_refl _) (fun g hg => aCg (h.inv.new g hg).1 hg) hNK.symm (nD F w) (fun _ _ => rfl) (fun g hg => by simp [N1] at hg)
theorem aPP {K : vZ} {A : Nat} (h : jB P fn W (N1 A K) s a w F Ow bm) (ds : List Nat) (hsl : kF p2 s.boxes ds 0 s.tmps = true) : jB P fn W (N2 A w.heap.size F K) (Vs.turn φ2 (fun _ => false) ds s) a w (aAt F w) (fun _ => none) (fun _ => w.heap.size) :=
  h.turn φ2 (fun _ => false) ds p2 hsl (fun c g o hc hg hF hH => by
    refine ⟨nD F w g, .inr ⟨rfl, ?_, ?_, rfl⟩⟩
    · cases c with
      | new => obtain ⟨h1, h2, h3⟩ := hH; exact ⟨by simp only [N2]; simp [hg, hF]; exact h1, fun _ => ⟨h2, h3⟩⟩
      | tag k f =>
        rcases k with _ | k
        · exact ⟨by have := hH.1; simp only [N1, N2] at this ⊢; simp at this ⊢; exact this, fun h => by cases h⟩
        · cases (show false = true from hc)
      | _ => cases (show false = true from hc)
    · cases c <;> rfl)
    ⟨fun b cs hb hne => ⟨(h.box_lt hb hne).2.2.2, by simp [N2, h.box_lt hb hne], rfl⟩, fun g hg => by
      have h0 : A ≤ w.heap.size := h.inv.low.le
      simp [N1] at hg
      exact ⟨nD F w g, by simp only [N2]; simp; omega, rfl⟩⟩
    (Nat.le_refl _) (fun g hg => aCg (h.inv.new g hg).1 hg) rfl (nD F w) (fun _ _ => rfl) (fun g hg => by simp [N2] at hg)
open Classical in
theorem aPU {K : vZ} {A B : Nat} {F2 : Fr} (h : jB P fn W (N2 A B F2 K) s a w F Ow bm) (hA : W.heap.size ≤ A) (hB : B ≤ w.heap.size) (hAB : A ≤ B) (ds : List Nat) (hsl : kF p3 s.boxes ds 0 s.tmps = true) (hK : ∀ k ∈ K, k.1.1 < W.heap.size := by intro _ h; cases h) : jB P fn W (N3 w A B F2 F hB K) (Vs.turn φ3 σ3 ds s) a w (aAt F w) (fun _ => none) (fun _ => w.heap.size) :=
  h.turn φ3 σ3 ds p3 hsl (fun c g o hc hg hF hH => by
    refine ⟨nD F w g, ?_⟩
    cases c with
    | new =>
      obtain ⟨h1, h2, h3⟩ := hH
      have h1' : B ≤ g := h1
      exact .inr ⟨rfl, ⟨by simp only [N3]; simp [h1', hF], fun _ => ⟨h2, h3⟩⟩, rfl, by simp only [N3]; exact decide_eq_false (fun h => by omega)⟩
    | tag k f =>
      rcases k with _ | _ | k
      · have h0 := hH.1
        simp only [N2] at h0
        simp at h0
        exact .inr ⟨rfl, ⟨by simp only [N3]; simp [h0], fun h => by cases h⟩, rfl, by simp only [N3]; exact decide_eq_false (fun h => by omega)⟩
      · have h0 := hH.1
        simp only [N2] at h0
        simp at h0
        cases f with
        | true => exact .inl ⟨rfl, by simp only [N3]; exact decide_eq_true ⟨h0.1, h0.2.1, h0.2.2, (hH.2 rfl).2⟩⟩
        | false => cases (show false = true from hc)
      · cases (show false = true from hc)
    | _ => cases (show false = true from hc))
    ⟨fun b cs hb hne => by
      obtain ⟨b1, b2, b3, b4⟩ := h.box_lt hb hne
      have b3' : B ≤ bm b := b3
      exact ⟨b4, by simp only [N3]; simp; omega, by simp only [N3]; exact decide_eq_false (fun h => by omega)⟩, fun g hg => by
      simp [N2] at hg
      exact ⟨nD F w g, by simp only [N3]; simp; omega, by simp only [N3]; exact decide_eq_false (fun h => by omega)⟩⟩
    (Nat.le_refl _) (fun g hg => aCg (h.inv.new g hg).1 hg) rfl (nD F w) (fun k hk => by have := hK k hk; simp only [N3]; exact decide_eq_false (fun h => by omega)) (fun g hg => by
      simp only [N3] at hg
      have := of_decide_eq_true hg
      exact ⟨by omega, this.2.2.2⟩)
open Classical in
theorem aPQ {K : vZ} {A B : Nat} {w0 : World} {F2 F3 : Fr} {hB0 : B ≤ w0.heap.size} (h : jB P fn W (N3 w0 A B F2 F3 hB0 K) s a w F Ow bm) (hA : W.heap.size ≤ A) (hB : B ≤ w.heap.size) (hAB : A ≤ B) (ds : List Nat) {t : Nat} (ht : t < s.tmps.length) (ht2 : t < fn.ntmps) {es : List (List (aB true))} {z : Nat}
    (hslot : s.tmps.getD t .any = .leaf (.sl tG es)) (hpos : 0 < es.length) (hez : ∀ e ∈ es, e.length = z) (hsl : kF p4 s.boxes ds 0 s.tmps = true) (hK : ∀ k ∈ K, k.1.1 < W.heap.size := by intro _ h; cases h) :
    ∃ k F' Ow' bm' R, es.length * z ≤ k ∧ jB P fn W (N4 A B R K) (aKZ (Vs.turn φ4 (fun _ => false) ds s) t z es.length k) a w F' Ow' bm' := by
  obtain ⟨k, F', Ow', bm', h1, h2⟩ := h.row (N' := N4 A B (fun g => (N3 w0 A B F2 F3 hB0 K).T 3 g || decide (w0.heap.size ≤ g)) K) φ4 ds p4 ht ht2 hslot hpos hez hsl (fun g o hg hH => by
    have h0 := hH.1
    simp only [N3] at h0
    simp at h0
    refine ⟨(hH.2 rfl).1, (hH.2 rfl).2, h0.1, by omega, fun c' o' hc' hH' => ?_⟩
    cases c' with
    | tag k f =>
      rcases k with _ | k
      · have h1 := hH'.1
        simp only [N3] at h1
        simp at h1
        omega
      · cases (show false = true from hc')
    | _ => cases (show false = true from hc')) (fun c g o hc hH => by
    refine ⟨?_, rfl⟩
    cases c with
    | tag k f =>
      rcases k with _ | k
      · have h1 := hH.1
        simp only [N3] at h1
        simp at h1
        exact ⟨by simp only [N4]; simp [h1], fun h => by cases h⟩
      · cases (show false = true from hc)
    | _ => cases (show false = true from hc)) (fun g hg hF hH => by
    have h0 := hH.1
    simp only [N3] at h0
    simp at h0
    refine ⟨fun b cs hb hne0 => ?_, fun x hx => ?_⟩
    · obtain ⟨b1, b2, b3, b4⟩ := h.box_lt hb hne0
      have b3' : w0.heap.size ≤ bm b := b3
      have hne : bm b ≠ g := fun e => by rw [e] at b2; omega
      exact ⟨by simpa [hne] using b4, by simp only [N4]; simp [b3'], rfl⟩
    · have hx' := hx
      simp only [N3] at hx'
      simp at hx'
      have hne : x ≠ g := fun e => by subst e; omega
      exact ⟨by simp [hne, nD], by simp only [N4]; simp [hx], rfl⟩) (fun _ => rfl) hB rfl hK
  exact ⟨k, F', Ow', bm', _, h1, h2⟩
end
end Go.Vs
end
section
namespace Go.Vs
variable {m : Bool} {β : Type}
abbrev El := List (aB false)
def mG (e : El) (p : Nat) : List El := match e[p]? with | some (.sl _ es) => es | _ => []
def aHq (e : El) (p : Nat) : Int := match e[p]? with | some (.int _ n) => n | _ => 0
def aLN (e : El) (p : Nat) : Bool := match e[p]? with | some (.bool b) => b | _ => false
def gV (e : El) (p : Nat) : ByteArray := match e[p]? with | some (.str s) => s | _ => ⟨#[]⟩
theorem bT (b : Bool) : (b == true) = b := by cases b <;> rfl
theorem bF (b : Bool) : (b == false) = !b := by cases b <;> rfl
theorem aHH (b : Bool) (x y : Option β) : aC (!b) x y = aC b y x := by cases b <;> rfl
theorem aBx (b : Bool) (x : Option β) : aC b x x = x := by cases b <;> rfl
def wN (v : SV m) (k : Bool → Option β) : Option β := aL v fun l => cU l k
def aKU (v : SV m) (k : Int → Option β) : Option β := aL v fun l => cL .i64 l k
def aO2 (v : SV m) (k : ByteArray → Option β) : Option β := aL v fun l => bM l k
def vSl (v : SV m) (k : List (List (aB m)) → Option β) : Option β := iR v fun _ es => k es
abbrev Ret (m : Bool) := Option (SV m × List (List (SV m)))
abbrev LE := List El
abbrev LT := List (List (aB true))
abbrev PS := List Nat × St false
abbrev PT := List Nat × St true
def mQ (r : Ret m) (k : Bool → Option β) : Option β := r.bind fun r => wN r.1 k
def aEI (r : Ret m) (k : Int → Option β) : Option β := r.bind fun r => aKU r.1 k
def aPj (r : Ret m) (k : ByteArray → Option β) : Option β := r.bind fun r => aO2 r.1 k
def rSl (r : Ret m) (k : List (List (aB m)) → Option β) : Option β := r.bind fun r => vSl r.1 k
def aFd (t : TypeId) (r : Ret m) (k : List (List (aB m)) → Option β) : Option β := r.bind fun r => kX t r.1 k
def aPw (r : Ret m) (k : Bool → Option β) : Option β := r.bind fun r => kQ r.2 (wN r.1 k)
def aPK (r : Ret m) (k : Int → Option β) : Option β := r.bind fun r => kQ r.2 (aKU r.1 k)
def aKg (r : Ret m) (k : ByteArray → Bool → Option β) : Option β := r.bind fun r => qW r.2 fun d r1 => jL d fun d r2 => aO2 d fun s => kN r2 (kQ r1 (wN r.1 fun b => k s b))
def aMH (r : Ret m) (k : ByteArray → Int → Option β) : Option β := r.bind fun r => qW r.2 fun d r1 => jL d fun d r2 => aO2 d fun s => kN r2 (kQ r1 (aKU r.1 fun b => k s b))
def aGW (t : TypeId) (r : Ret m) (k : List (List (aB m)) → Option β) : Option β := r.bind fun r => qW r.2 fun d r1 => jL d fun d r2 => kX t d fun es => kN r2 (kQ r1 (lX r.1 fun vs => kN vs (k es)))
def aCX (e : List (aB m)) (p : Nat) (k : Bool → Option β) : Option β := atK e p fun l => cU l k
def wZ (e : List (aB m)) (p : Nat) (k : Int → Option β) : Option β := atK e p fun l => cL .i64 l k
def gD (e : List (aB m)) (p : Nat) (k : ByteArray → Option β) : Option β := atK e p fun l => bM l k
def aSl (e : List (aB m)) (p : Nat) (k : List (List (aB m)) → Option β) : Option β := atK e p fun l => slK l fun _ es => k es
section
variable {b : Bool} {n : Int} {s : ByteArray} {es : List (List (aB m))} {c : Fl m} {bs : List (List (SV m))} {t : TypeId}
theorem sR (k : Bool → Option β) : wN (.leaf (.bool b) : SV m) k = k b := rfl
theorem aKm (k : Int → Option β) : aKU (.leaf (.int .i64 n) : SV m) k = k n := rfl
theorem aMu (k : List (List (aB m)) → Option β) : vSl (.leaf (.sl c es)) k = k es := rfl
theorem mA (k : Bool → Option β) : mQ (some ((.leaf (.bool b) : SV m), bs)) k = k b := rfl
theorem oQ (k : Int → Option β) : aEI (some ((.leaf (.int .i64 n) : SV m), bs)) k = k n := rfl
theorem aOS (k : ByteArray → Option β) : aPj (some ((.leaf (.str s) : SV m), bs)) k = k s := rfl
theorem aOz (k : List (List (aB m)) → Option β) : rSl (some ((.leaf (.sl c es)), bs)) k = k es := rfl
theorem rZ (k : List (List (aB m)) → Option β) : aFd t (some ((.own (some t) es), bs)) k = k es := by show kX t (.own (some t) es) k = k es; simp
theorem aJe (k : ByteArray → Bool → Option β) : aKg (some ((.leaf (.bool b) : SV m), [[.leaf (.str s)]])) k = k s b := rfl
theorem aLA (k : ByteArray → Int → Option β) : aMH (some ((.leaf (.int .i64 n) : SV m), [[.leaf (.str s)]])) k = k s n := rfl
theorem uJ (k : List (List (aB m)) → Option β) : aGW t (some (.tup [], [[.own (some t) es]])) k = k es := by show kX t (.own (some t) es) _ = k es; simp
section
variable {r : List (aB m)}
theorem aME (k : Bool → Option β) : aCX (.bool b :: r) 0 k = k b := rfl
theorem aOl (k : Int → Option β) : wZ (.int .i64 n :: r) 0 k = k n := rfl
theorem aJz (k : ByteArray → Option β) : gD (.str s :: r) 0 k = k s := rfl
theorem aO8 (k : List (List (aB m)) → Option β) : aSl (.sl c es :: r) 0 k = k es := rfl
end
theorem aPM {l : aB m} {r : List (aB m)} {p : Nat} : (∀ k : Bool → Option β, aCX (l :: r) (p + 1) k = aCX r p k) ∧ (∀ k : Int → Option β, wZ (l :: r) (p + 1) k = wZ r p k) ∧ (∀ k : ByteArray → Option β, gD (l :: r) (p + 1) k = gD r p k) ∧
    (∀ k : List (List (aB m)) → Option β, aSl (l :: r) (p + 1) k = aSl r p k) := ⟨fun _ => rfl, fun _ => rfl, fun _ => rfl, fun _ => rfl⟩
end
theorem rdR : (∀ (m : Bool) (β : Type) (b : Bool) (k : Bool → Option β), wN (.leaf (.bool b) : SV m) k = k b) ∧
    (∀ (m : Bool) (β : Type) (n : Int) (k : Int → Option β), aKU (.leaf (.int .i64 n) : SV m) k = k n) ∧
    (∀ (m : Bool) (β : Type) (s : ByteArray) (k : ByteArray → Option β), aO2 (.leaf (.str s) : SV m) k = k s) ∧
    (∀ (m : Bool) (β : Type) (c : Fl m) (es : List (List (aB m))) (k : List (List (aB m)) → Option β), vSl (.leaf (.sl c es)) k = k es) ∧
    (∀ (m : Bool) (β : Type) (b : Bool) (bs : List (List (SV m))) (k : Bool → Option β), mQ (some ((.leaf (.bool b) : SV m), bs)) k = k b) ∧
    (∀ (m : Bool) (β : Type) (n : Int) (bs : List (List (SV m))) (k : Int → Option β), aEI (some ((.leaf (.int .i64 n) : SV m), bs)) k = k n) ∧
    (∀ (m : Bool) (β : Type) (s : ByteArray) (bs : List (List (SV m))) (k : ByteArray → Option β), aPj (some ((.leaf (.str s) : SV m), bs)) k = k s) ∧
    (∀ (m : Bool) (β : Type) (c : Fl m) (es : List (List (aB m))) (bs : List (List (SV m))) (k : List (List (aB m)) → Option β), rSl (some ((.leaf (.sl c es)), bs)) k = k es) ∧
    (∀ (m : Bool) (β : Type) (t : TypeId) (es : List (List (aB m))) (bs : List (List (SV m))) (k : List (List (aB m)) → Option β), aFd t (some ((.own (some t) es), bs)) k = k es) ∧
    (∀ (m : Bool) (β : Type) (b : Bool) (k : Bool → Option β), aPw (some ((.leaf (.bool b) : SV m), [])) k = k b) ∧
    (∀ (m : Bool) (β : Type) (n : Int) (k : Int → Option β), aPK (some ((.leaf (.int .i64 n) : SV m), [])) k = k n) ∧
    (∀ (m : Bool) (β : Type) (b : Bool) (s : ByteArray) (k : ByteArray → Bool → Option β), aKg (some ((.leaf (.bool b) : SV m), [[.leaf (.str s)]])) k = k s b) ∧
    (∀ (m : Bool) (β : Type) (n : Int) (s : ByteArray) (k : ByteArray → Int → Option β), aMH (some ((.leaf (.int .i64 n) : SV m), [[.leaf (.str s)]])) k = k s n) ∧
    (∀ (m : Bool) (β : Type) (t : TypeId) (es : List (List (aB m))) (k : List (List (aB m)) → Option β), aGW t (some (.tup [], [[.own (some t) es]])) k = k es) ∧
    (∀ (m : Bool) (β : Type) (b : Bool) (r : List (aB m)) (k : Bool → Option β), aCX (.bool b :: r) 0 k = k b) ∧
    (∀ (m : Bool) (β : Type) (n : Int) (r : List (aB m)) (k : Int → Option β), wZ (.int .i64 n :: r) 0 k = k n) ∧
    (∀ (m : Bool) (β : Type) (s : ByteArray) (r : List (aB m)) (k : ByteArray → Option β), gD (.str s :: r) 0 k = k s) ∧
    (∀ (m : Bool) (β : Type) (c : Fl m) (es : List (List (aB m))) (r : List (aB m)) (k : List (List (aB m)) → Option β), aSl (.sl c es :: r) 0 k = k es) ∧
    (∀ (β : Type) (α : Type) (x : α) (f : α → Option β), (some x).bind f = f x) ∧
    (∀ (m : Bool) (β : Type) (vs : List (SV m)) (k : List (SV m) → Option β), lX (.tup vs) k = k vs) ∧
    (∀ (m : Bool) (β : Type) (v : SV m) (r : List (SV m)) (k : SV m → List (SV m) → Option β), jL (v :: r) k = k v r) ∧
    (∀ (m : Bool) (β : Type) (v : List (SV m)) (r : List (List (SV m))) (k : List (SV m) → List (List (SV m)) → Option β), qW (v :: r) k = k v r) ∧
    (∀ (m : Bool) (β : Type) (k : Option β), kN ([] : List (SV m)) k = k) ∧
    (∀ (m : Bool) (β : Type) (k : Option β), kQ ([] : List (List (SV m))) k = k) ∧
    (∀ (m : Bool) (β : Type) (cs : List (aB m)) (k : List (aB m) → Option β), eA (.agg cs) k = k cs) ∧
    (∀ (m : Bool) (β : Type) (e : TypeId) (es : List (List (aB m))) (k : List (List (aB m)) → Option β), kX e (.own (some e) es) k = k es) ∧
    (∀ (β : Type) (x y : Option β), aC true x y = x) ∧
    (∀ (β : Type) (x y : Option β), aC false x y = y) ∧
    (∀ (β : Type) (x : Option β), aA true x = x) :=
  ⟨fun _ _ _ _ => rfl, fun _ _ _ _ => rfl, fun _ _ _ _ => rfl, fun _ _ _ _ _ => rfl, fun _ _ _ _ _ => rfl, fun _ _ _ _ _ => rfl, fun _ _ _ _ _ => rfl, fun _ _ _ _ _ _ => rfl, fun _ _ _ _ _ k => rZ k, fun _ _ _ _ => rfl, fun _ _ _ _ => rfl, fun _ _ _ _ _ => rfl, fun _ _ _ _ _ => rfl, fun _ _ _ _ k => uJ k, fun _ _ _ _ _ => rfl, fun _ _ _ _ _ => rfl, fun _ _ _ _ _ => rfl, fun _ _ _ _ _ _ => rfl, fun _ _ _ _ => rfl, fun _ _ _ _ => rfl, fun _ _ _ _ _ => rfl, fun _ _ _ _ _ => rfl, fun _ _ _ => rfl, fun _ _ _ => rfl, fun _ _ _ _ => rfl, fun _ _ => iO, fun _ _ _ => rfl, fun _ _ _ => rfl, fun _ _ => rfl⟩
theorem inI : (∀ a b : Nat, ((a : Int) < (b : Int)) = (a < b)) ∧ (∀ n : Nat, (0 ≤ (n : Int)) = True) ∧ (∀ n : Nat, ((n : Int)).toNat = n) ∧ decide True = true ∧ (∀ b : Bool, (b && true) = b) ∧ (∀ b : Bool, (true && b) = b) ∧ (∀ (β : Type) (x y : Option β), aC true x y = x) ∧ (∀ (β : Type) (x : Option β), aA true x = x) :=
  ⟨fun _ _ => propext Int.ofNat_lt, fun _ => eq_true (Int.natCast_nonneg _), Int.toNat_natCast, by decide, Bool.and_true, Bool.true_and, fun _ _ _ => rfl, fun _ _ => rfl⟩
end Go.Vs
end
section
namespace Go.Vs
variable {β : Type}
structure qS where
  mk ::
  (a0 a1 : ByteArray)
def qS.l (x : qS) : El := [.str x.a0, .str x.a1]
def qS.b (x : qS) : List (SV false) := [.leaf (.str x.a0), .leaf (.str x.a1)]
def qS.rd (e : El) (k : qS → Option β) : Option β := gD e 0 fun a0 => gD e 1 fun a1 => k ⟨a0, a1⟩
def qS.va (v : SV false) (k : qS → Option β) : Option β := eA v fun e => aA (e.length == 2) (qS.rd e k)
theorem qS.rd_l (x : qS) (k : qS → Option β) : qS.rd x.l k = k x := rfl
theorem qS.va_l (x : qS) (k : qS → Option β) : qS.va (.agg x.l) k = k x := rfl
def qS.of (e : El) : qS := ⟨gV e 0, gV e 1⟩
theorem qS.of_l (x : qS) : qS.of x.l = x := rfl
theorem qS.len (x : qS) : x.l.length = 2 := rfl
structure hE where
  mk ::
  (a0 : Int) (a1 : ByteArray) (a2 a3 : List El)
def hE.l (x : hE) : El := [.int .i64 x.a0, .str x.a1, .sl fP x.a2, .sl fP x.a3]
def hE.b (x : hE) : List (SV false) := [.leaf (.int .i64 x.a0), .leaf (.str x.a1), .leaf (.sl fP x.a2), .leaf (.sl fP x.a3)]
def hE.rd (e : El) (k : hE → Option β) : Option β := wZ e 0 fun a0 => gD e 1 fun a1 => aSl e 2 fun a2 => aSl e 3 fun a3 => k ⟨a0, a1, a2, a3⟩
def hE.va (v : SV false) (k : hE → Option β) : Option β := eA v fun e => aA (e.length == 4) (hE.rd e k)
theorem hE.rd_l (x : hE) (k : hE → Option β) : hE.rd x.l k = k x := rfl
theorem hE.va_l (x : hE) (k : hE → Option β) : hE.va (.agg x.l) k = k x := rfl
def hE.of (e : El) : hE := ⟨aHq e 0, gV e 1, mG e 2, mG e 3⟩
theorem hE.of_l (x : hE) : hE.of x.l = x := rfl
theorem hE.len (x : hE) : x.l.length = 4 := rfl
structure eO where
  mk ::
  (a0 : ByteArray) (a1 : Int) (a2 : ByteArray) (a3 a4 : List El)
def eO.l (x : eO) : El := [.str x.a0, .int .i64 x.a1, .str x.a2, .sl fP x.a3, .sl fP x.a4]
def eO.b (x : eO) : List (SV false) := [.leaf (.str x.a0), .leaf (.int .i64 x.a1), .leaf (.str x.a2), .leaf (.sl fP x.a3), .leaf (.sl fP x.a4)]
def eO.rd (e : El) (k : eO → Option β) : Option β := gD e 0 fun a0 => wZ e 1 fun a1 => gD e 2 fun a2 => aSl e 3 fun a3 => aSl e 4 fun a4 => k ⟨a0, a1, a2, a3, a4⟩
def eO.va (v : SV false) (k : eO → Option β) : Option β := eA v fun e => aA (e.length == 5) (eO.rd e k)
theorem eO.rd_l (x : eO) (k : eO → Option β) : eO.rd x.l k = k x := rfl
theorem eO.va_l (x : eO) (k : eO → Option β) : eO.va (.agg x.l) k = k x := rfl
def eO.of (e : El) : eO := ⟨gV e 0, aHq e 1, gV e 2, mG e 3, mG e 4⟩
theorem eO.of_l (x : eO) : eO.of x.l = x := rfl
theorem eO.len (x : eO) : x.l.length = 5 := rfl
structure qV where
  mk ::
  (a0 : ByteArray) (a1 : List El)
def qV.l (x : qV) : El := [.str x.a0, .sl fP x.a1]
def qV.b (x : qV) : List (SV false) := [.leaf (.str x.a0), .leaf (.sl fP x.a1)]
def qV.rd (e : El) (k : qV → Option β) : Option β := gD e 0 fun a0 => aSl e 1 fun a1 => k ⟨a0, a1⟩
def qV.va (v : SV false) (k : qV → Option β) : Option β := eA v fun e => aA (e.length == 2) (qV.rd e k)
theorem qV.rd_l (x : qV) (k : qV → Option β) : qV.rd x.l k = k x := rfl
theorem qV.va_l (x : qV) (k : qV → Option β) : qV.va (.agg x.l) k = k x := rfl
def qV.of (e : El) : qV := ⟨gV e 0, mG e 1⟩
theorem qV.of_l (x : qV) : qV.of x.l = x := rfl
theorem qV.len (x : qV) : x.l.length = 2 := rfl
structure bV where
  mk ::
  (a0 a1 a2 a3 : ByteArray) (a4 : Bool) (a5 : Int) (a6 : ByteArray) (a7 a8 a9 : List El)
def bV.l (x : bV) : El := [.str x.a0, .str x.a1, .str x.a2, .str x.a3, .bool x.a4, .int .i64 x.a5, .str x.a6, .sl fP x.a7, .sl fP x.a8, .sl fP x.a9]
def bV.b (x : bV) : List (SV false) := [.leaf (.str x.a0), .leaf (.str x.a1), .leaf (.str x.a2), .leaf (.str x.a3), .leaf (.bool x.a4), .leaf (.int .i64 x.a5), .leaf (.str x.a6), .leaf (.sl fP x.a7), .leaf (.sl fP x.a8), .leaf (.sl fP x.a9)]
def bV.rd (e : El) (k : bV → Option β) : Option β := gD e 0 fun a0 => gD e 1 fun a1 => gD e 2 fun a2 => gD e 3 fun a3 => aCX e 4 fun a4 => wZ e 5 fun a5 => gD e 6 fun a6 => aSl e 7 fun a7 => aSl e 8 fun a8 => aSl e 9 fun a9 => k ⟨a0, a1, a2, a3, a4, a5, a6, a7, a8, a9⟩
def bV.va (v : SV false) (k : bV → Option β) : Option β := eA v fun e => aA (e.length == 10) (bV.rd e k)
theorem bV.rd_l (x : bV) (k : bV → Option β) : bV.rd x.l k = k x := rfl
theorem bV.va_l (x : bV) (k : bV → Option β) : bV.va (.agg x.l) k = k x := rfl
def bV.of (e : El) : bV := ⟨gV e 0, gV e 1, gV e 2, gV e 3, aLN e 4, aHq e 5, gV e 6, mG e 7, mG e 8, mG e 9⟩
theorem bV.of_l (x : bV) : bV.of x.l = x := rfl
theorem bV.len (x : bV) : x.l.length = 10 := rfl
structure bC where
  mk ::
  (a0 a1 : ByteArray) (a2 : List El) (a3 a4 : ByteArray) (a5 : List El)
def bC.l (x : bC) : El := [.str x.a0, .str x.a1, .sl fP x.a2, .str x.a3, .str x.a4, .sl fP x.a5]
def bC.b (x : bC) : List (SV false) := [.leaf (.str x.a0), .leaf (.str x.a1), .leaf (.sl fP x.a2), .leaf (.str x.a3), .leaf (.str x.a4), .leaf (.sl fP x.a5)]
def bC.rd (e : El) (k : bC → Option β) : Option β := gD e 0 fun a0 => gD e 1 fun a1 => aSl e 2 fun a2 => gD e 3 fun a3 => gD e 4 fun a4 => aSl e 5 fun a5 => k ⟨a0, a1, a2, a3, a4, a5⟩
def bC.va (v : SV false) (k : bC → Option β) : Option β := eA v fun e => aA (e.length == 6) (bC.rd e k)
theorem bC.rd_l (x : bC) (k : bC → Option β) : bC.rd x.l k = k x := rfl
theorem bC.va_l (x : bC) (k : bC → Option β) : bC.va (.agg x.l) k = k x := rfl
def bC.of (e : El) : bC := ⟨gV e 0, gV e 1, mG e 2, gV e 3, gV e 4, mG e 5⟩
theorem bC.of_l (x : bC) : bC.of x.l = x := rfl
theorem bC.len (x : bC) : x.l.length = 6 := rfl
structure kP where
  mk ::
  (a0 a1 : ByteArray) (a2 : List El)
def kP.l (x : kP) : El := [.str x.a0, .str x.a1, .sl fP x.a2]
def kP.b (x : kP) : List (SV false) := [.leaf (.str x.a0), .leaf (.str x.a1), .leaf (.sl fP x.a2)]
def kP.rd (e : El) (k : kP → Option β) : Option β := gD e 0 fun a0 => gD e 1 fun a1 => aSl e 2 fun a2 => k ⟨a0, a1, a2⟩
def kP.va (v : SV false) (k : kP → Option β) : Option β := eA v fun e => aA (e.length == 3) (kP.rd e k)
theorem kP.rd_l (x : kP) (k : kP → Option β) : kP.rd x.l k = k x := rfl
theorem kP.va_l (x : kP) (k : kP → Option β) : kP.va (.agg x.l) k = k x := rfl
def kP.of (e : El) : kP := ⟨gV e 0, gV e 1, mG e 2⟩
theorem kP.of_l (x : kP) : kP.of x.l = x := rfl
theorem kP.len (x : kP) : x.l.length = 3 := rfl
structure qU where
  mk ::
  (a0 : Int) (a1 : ByteArray)
def qU.l (x : qU) : El := [.int .i64 x.a0, .str x.a1]
def qU.b (x : qU) : List (SV false) := [.leaf (.int .i64 x.a0), .leaf (.str x.a1)]
def qU.rd (e : El) (k : qU → Option β) : Option β := wZ e 0 fun a0 => gD e 1 fun a1 => k ⟨a0, a1⟩
def qU.va (v : SV false) (k : qU → Option β) : Option β := eA v fun e => aA (e.length == 2) (qU.rd e k)
theorem qU.rd_l (x : qU) (k : qU → Option β) : qU.rd x.l k = k x := rfl
theorem qU.va_l (x : qU) (k : qU → Option β) : qU.va (.agg x.l) k = k x := rfl
def qU.of (e : El) : qU := ⟨aHq e 0, gV e 1⟩
theorem qU.of_l (x : qU) : qU.of x.l = x := rfl
theorem qU.len (x : qU) : x.l.length = 2 := rfl
structure aN where
  mk ::
  (a0 : Int) (a1 : Bool) (a2 a3 : ByteArray) (a4 a5 a6 a7 a8 : List El) (a9 : Bool) (a10 : List El)
def aN.l (x : aN) : El := [.int .i64 x.a0, .bool x.a1, .str x.a2, .str x.a3, .sl fP x.a4, .sl fP x.a5, .sl fP x.a6, .sl fP x.a7, .sl fP x.a8, .bool x.a9, .sl fP x.a10]
def aN.b (x : aN) : List (SV false) := [.leaf (.int .i64 x.a0), .leaf (.bool x.a1), .leaf (.str x.a2), .leaf (.str x.a3), .leaf (.sl fP x.a4), .leaf (.sl fP x.a5), .leaf (.sl fP x.a6), .leaf (.sl fP x.a7), .leaf (.sl fP x.a8), .leaf (.bool x.a9), .leaf (.sl fP x.a10)]
def aN.rd (e : El) (k : aN → Option β) : Option β := wZ e 0 fun a0 => aCX e 1 fun a1 => gD e 2 fun a2 => gD e 3 fun a3 => aSl e 4 fun a4 => aSl e 5 fun a5 => aSl e 6 fun a6 => aSl e 7 fun a7 => aSl e 8 fun a8 => aCX e 9 fun a9 => aSl e 10 fun a10 => k ⟨a0, a1, a2, a3, a4, a5, a6, a7, a8, a9, a10⟩
def aN.va (v : SV false) (k : aN → Option β) : Option β := eA v fun e => aA (e.length == 11) (aN.rd e k)
theorem aN.rd_l (x : aN) (k : aN → Option β) : aN.rd x.l k = k x := rfl
theorem aN.va_l (x : aN) (k : aN → Option β) : aN.va (.agg x.l) k = k x := rfl
def aN.of (e : El) : aN := ⟨aHq e 0, aLN e 1, gV e 2, gV e 3, mG e 4, mG e 5, mG e 6, mG e 7, mG e 8, aLN e 9, mG e 10⟩
theorem aN.of_l (x : aN) : aN.of x.l = x := rfl
theorem aN.len (x : aN) : x.l.length = 11 := rfl
structure cA where
  mk ::
  (a0 a1 a2 : List El)
def cA.l (x : cA) : El := [.sl fP x.a0, .sl fP x.a1, .sl fP x.a2]
def cA.b (x : cA) : List (SV false) := [.leaf (.sl fP x.a0), .leaf (.sl fP x.a1), .leaf (.sl fP x.a2)]
def cA.rd (e : El) (k : cA → Option β) : Option β := aSl e 0 fun a0 => aSl e 1 fun a1 => aSl e 2 fun a2 => k ⟨a0, a1, a2⟩
def cA.va (v : SV false) (k : cA → Option β) : Option β := eA v fun e => aA (e.length == 3) (cA.rd e k)
theorem cA.rd_l (x : cA) (k : cA → Option β) : cA.rd x.l k = k x := rfl
theorem cA.va_l (x : cA) (k : cA → Option β) : cA.va (.agg x.l) k = k x := rfl
def cA.of (e : El) : cA := ⟨mG e 0, mG e 1, mG e 2⟩
theorem cA.of_l (x : cA) : cA.of x.l = x := rfl
theorem cA.len (x : cA) : x.l.length = 3 := rfl
structure lA where
  mk ::
  (a0 : Int) (a1 a2 : ByteArray)
def lA.l (x : lA) : El := [.int .i64 x.a0, .str x.a1, .str x.a2]
def lA.b (x : lA) : List (SV false) := [.leaf (.int .i64 x.a0), .leaf (.str x.a1), .leaf (.str x.a2)]
def lA.rd (e : El) (k : lA → Option β) : Option β := wZ e 0 fun a0 => gD e 1 fun a1 => gD e 2 fun a2 => k ⟨a0, a1, a2⟩
def lA.va (v : SV false) (k : lA → Option β) : Option β := eA v fun e => aA (e.length == 3) (lA.rd e k)
theorem lA.rd_l (x : lA) (k : lA → Option β) : lA.rd x.l k = k x := rfl
theorem lA.va_l (x : lA) (k : lA → Option β) : lA.va (.agg x.l) k = k x := rfl
def lA.of (e : El) : lA := ⟨aHq e 0, gV e 1, gV e 2⟩
theorem lA.of_l (x : lA) : lA.of x.l = x := rfl
theorem lA.len (x : lA) : x.l.length = 3 := rfl
structure bD where
  mk ::
  (a0 : Int) (a1 a2 a3 : ByteArray) (a4 a5 a6 : List El)
def bD.l (x : bD) : El := [.int .i64 x.a0, .str x.a1, .str x.a2, .str x.a3, .sl fP x.a4, .sl fP x.a5, .sl fP x.a6]
def bD.b (x : bD) : List (SV false) := [.leaf (.int .i64 x.a0), .leaf (.str x.a1), .leaf (.str x.a2), .leaf (.str x.a3), .leaf (.sl fP x.a4), .leaf (.sl fP x.a5), .leaf (.sl fP x.a6)]
def bD.rd (e : El) (k : bD → Option β) : Option β := wZ e 0 fun a0 => gD e 1 fun a1 => gD e 2 fun a2 => gD e 3 fun a3 => aSl e 4 fun a4 => aSl e 5 fun a5 => aSl e 6 fun a6 => k ⟨a0, a1, a2, a3, a4, a5, a6⟩
def bD.va (v : SV false) (k : bD → Option β) : Option β := eA v fun e => aA (e.length == 7) (bD.rd e k)
theorem bD.rd_l (x : bD) (k : bD → Option β) : bD.rd x.l k = k x := rfl
theorem bD.va_l (x : bD) (k : bD → Option β) : bD.va (.agg x.l) k = k x := rfl
def bD.of (e : El) : bD := ⟨aHq e 0, gV e 1, gV e 2, gV e 3, mG e 4, mG e 5, mG e 6⟩
theorem bD.of_l (x : bD) : bD.of x.l = x := rfl
theorem bD.len (x : bD) : x.l.length = 7 := rfl
theorem atP : (∀ (β : Type) (x : qS), (∀ k : ByteArray → Option β, gD x.l 0 k = k x.a0) ∧ (∀ k : ByteArray → Option β, gD x.l 1 k = k x.a1)) ∧ (∀ (β : Type) (x : hE), (∀ k : Int → Option β, wZ x.l 0 k = k x.a0) ∧ (∀ k : ByteArray → Option β, gD x.l 1 k = k x.a1) ∧ (∀ k : List El → Option β, aSl x.l 2 k = k x.a2) ∧ (∀ k : List El → Option β, aSl x.l 3 k = k x.a3)) ∧ (∀ (β : Type) (x : eO), (∀ k : ByteArray → Option β, gD x.l 0 k = k x.a0) ∧ (∀ k : Int → Option β, wZ x.l 1 k = k x.a1) ∧ (∀ k : ByteArray → Option β, gD x.l 2 k = k x.a2) ∧ (∀ k : List El → Option β, aSl x.l 3 k = k x.a3) ∧ (∀ k : List El → Option β, aSl x.l 4 k = k x.a4)) ∧ (∀ (β : Type) (x : qV), (∀ k : ByteArray → Option β, gD x.l 0 k = k x.a0) ∧ (∀ k : List El → Option β, aSl x.l 1 k = k x.a1)) ∧ (∀ (β : Type) (x : bV), (∀ k : ByteArray → Option β, gD x.l 0 k = k x.a0) ∧ (∀ k : ByteArray → Option β, gD x.l 1 k = k x.a1) ∧ (∀ k : ByteArray → Option β, gD x.l 2 k = k x.a2) ∧ (∀ k : ByteArray → Option β, gD x.l 3 k = k x.a3) ∧ (∀ k : Bool → Option β, aCX x.l 4 k = k x.a4) ∧ (∀ k : Int → Option β, wZ x.l 5 k = k x.a5) ∧ (∀ k : ByteArray → Option β, gD x.l 6 k = k x.a6) ∧ (∀ k : List El → Option β, aSl x.l 7 k = k x.a7) ∧ (∀ k : List El → Option β, aSl x.l 8 k = k x.a8) ∧ (∀ k : List El → Option β, aSl x.l 9 k = k x.a9)) ∧ (∀ (β : Type) (x : bC), (∀ k : ByteArray → Option β, gD x.l 0 k = k x.a0) ∧ (∀ k : ByteArray → Option β, gD x.l 1 k = k x.a1) ∧ (∀ k : List El → Option β, aSl x.l 2 k = k x.a2) ∧ (∀ k : ByteArray → Option β, gD x.l 3 k = k x.a3) ∧ (∀ k : ByteArray → Option β, gD x.l 4 k = k x.a4) ∧ (∀ k : List El → Option β, aSl x.l 5 k = k x.a5)) ∧ (∀ (β : Type) (x : kP), (∀ k : ByteArray → Option β, gD x.l 0 k = k x.a0) ∧ (∀ k : ByteArray → Option β, gD x.l 1 k = k x.a1) ∧ (∀ k : List El → Option β, aSl x.l 2 k = k x.a2)) ∧ (∀ (β : Type) (x : qU), (∀ k : Int → Option β, wZ x.l 0 k = k x.a0) ∧ (∀ k : ByteArray → Option β, gD x.l 1 k = k x.a1)) ∧ (∀ (β : Type) (x : aN), (∀ k : Int → Option β, wZ x.l 0 k = k x.a0) ∧ (∀ k : Bool → Option β, aCX x.l 1 k = k x.a1) ∧ (∀ k : ByteArray → Option β, gD x.l 2 k = k x.a2) ∧ (∀ k : ByteArray → Option β, gD x.l 3 k = k x.a3) ∧ (∀ k : List El → Option β, aSl x.l 4 k = k x.a4) ∧ (∀ k : List El → Option β, aSl x.l 5 k = k x.a5) ∧ (∀ k : List El → Option β, aSl x.l 6 k = k x.a6) ∧ (∀ k : List El → Option β, aSl x.l 7 k = k x.a7) ∧ (∀ k : List El → Option β, aSl x.l 8 k = k x.a8) ∧ (∀ k : Bool → Option β, aCX x.l 9 k = k x.a9) ∧ (∀ k : List El → Option β, aSl x.l 10 k = k x.a10)) ∧ (∀ (β : Type) (x : cA), (∀ k : List El → Option β, aSl x.l 0 k = k x.a0) ∧ (∀ k : List El → Option β, aSl x.l 1 k = k x.a1) ∧ (∀ k : List El → Option β, aSl x.l 2 k = k x.a2)) ∧ (∀ (β : Type) (x : lA), (∀ k : Int → Option β, wZ x.l 0 k = k x.a0) ∧ (∀ k : ByteArray → Option β, gD x.l 1 k = k x.a1) ∧ (∀ k : ByteArray → Option β, gD x.l 2 k = k x.a2)) ∧ (∀ (β : Type) (x : bD), (∀ k : Int → Option β, wZ x.l 0 k = k x.a0) ∧ (∀ k : ByteArray → Option β, gD x.l 1 k = k x.a1) ∧ (∀ k : ByteArray → Option β, gD x.l 2 k = k x.a2) ∧ (∀ k : ByteArray → Option β, gD x.l 3 k = k x.a3) ∧ (∀ k : List El → Option β, aSl x.l 4 k = k x.a4) ∧ (∀ k : List El → Option β, aSl x.l 5 k = k x.a5) ∧ (∀ k : List El → Option β, aSl x.l 6 k = k x.a6)) := ⟨fun _ _ => ⟨fun _ => rfl, fun _ => rfl⟩, fun _ _ => ⟨fun _ => rfl, fun _ => rfl, fun _ => rfl, fun _ => rfl⟩, fun _ _ => ⟨fun _ => rfl, fun _ => rfl, fun _ => rfl, fun _ => rfl, fun _ => rfl⟩, fun _ _ => ⟨fun _ => rfl, fun _ => rfl⟩, fun _ _ => ⟨fun _ => rfl, fun _ => rfl, fun _ => rfl, fun _ => rfl, fun _ => rfl, fun _ => rfl, fun _ => rfl, fun _ => rfl, fun _ => rfl, fun _ => rfl⟩, fun _ _ => ⟨fun _ => rfl, fun _ => rfl, fun _ => rfl, fun _ => rfl, fun _ => rfl, fun _ => rfl⟩, fun _ _ => ⟨fun _ => rfl, fun _ => rfl, fun _ => rfl⟩, fun _ _ => ⟨fun _ => rfl, fun _ => rfl⟩, fun _ _ => ⟨fun _ => rfl, fun _ => rfl, fun _ => rfl, fun _ => rfl, fun _ => rfl, fun _ => rfl, fun _ => rfl, fun _ => rfl, fun _ => rfl, fun _ => rfl, fun _ => rfl⟩, fun _ _ => ⟨fun _ => rfl, fun _ => rfl, fun _ => rfl⟩, fun _ _ => ⟨fun _ => rfl, fun _ => rfl, fun _ => rfl⟩, fun _ _ => ⟨fun _ => rfl, fun _ => rfl, fun _ => rfl, fun _ => rfl, fun _ => rfl, fun _ => rfl, fun _ => rfl⟩⟩
end Go.Vs
end
section
set_option linter.unusedVariables false
namespace Go.Vs
theorem bH {i : Nat} (h : i < maxLen) : IntKind.i64.wrap ((i : Int) + 1) = ((i + 1 : Nat) : Int) := by
  have hm : maxLen = 9223372036854775807 := rfl
  rw [pI (by omega) (by omega)]; rfl
mutual
def szF : aB false → Int → Int
  | .str s, n => if IntKind.i64.wrap (n - (s.size : Int)) < 0 then -1 else IntKind.i64.wrap (n - (s.size : Int))
  | .sl _ es, n => if IntKind.i64.wrap (n - (es.length : Int)) < 0 then -1 else szE es (IntKind.i64.wrap (n - (es.length : Int)))
  | .bool _, n => n
  | .int _ _, n => n
  | .unk, n => n
  | .nl _, n => n
def szL : List (aB false) → Int → Int
  | [], n => n
  | l :: r, n => if szF l n < 0 then -1 else szL r (szF l n)
def szE : List (List (aB false)) → Int → Int
  | [], n => n
  | e :: es, n => if szL e n < 0 then -1 else szE es (szL e n)
end
theorem aHI : ∀ (a b : List (aB false)) (n : Int), 0 ≤ n → szL (a ++ b) n = if szL a n < 0 then -1 else szL b (szL a n)
  | [], b, n, h => by simp [szL, Int.not_lt.2 h]
  | l :: a, b, n, h => by
    simp only [List.cons_append, szL]
    by_cases h1 : szF l n < 0
    · simp [h1]
    · simp only [h1, if_false]
      exact aHI a b _ (by omega)
section
variable {r : List (aB false)} {n : Int}
abbrev aH (n : Int) : SV false := .leaf (.int .i64 n)
abbrev aM (b : Bool) : SV false := .leaf (.bool b)
abbrev vsl (es : List (List (aB false))) : SV false := .leaf (.sl fP es)
abbrev Res := Option (SV false × List (List (SV false)))
theorem mW {s : ByteArray} {Y : Res} (g : 0 ≤ IntKind.i64.wrap (n - (s.size : Int)) → Y = some (aH (szL r (IntKind.i64.wrap (n - (s.size : Int)))), [])) :
    aC (decide (IntKind.i64.wrap (n - (s.size : Int)) < 0)) (some (SV.leaf (aB.int .i64 (-1)), [])) Y = some (aH (szL (.str s :: r) n), []) := by
  rw [nA]
  by_cases h : IntKind.i64.wrap (n - (s.size : Int)) < 0
  · simp [h, szL, szF]
  · simp only [h, decide_false, Bool.false_eq_true, if_false, szL, szF]
    exact g (by omega)
theorem aJK {k : IntKind} {z : Int} {Y : Res} (hn : 0 ≤ n) (g : Y = some (aH (szL r n), [])) : Y = some (aH (szL (.int k z :: r) n), []) := by
  rw [g]; simp [szL, szF, Int.not_lt.2 hn]
theorem aJ3 {b : Bool} {Y : Res} (hn : 0 ≤ n) (g : Y = some (aH (szL r n), [])) : Y = some (aH (szL (.bool b :: r) n), []) := by
  rw [g]; simp [szL, szF, Int.not_lt.2 hn]
theorem aHg {d : Res} {a : List (aB false)} {Y : Int → Res} (hd : d = some (aH (szL a n), [])) (hn : 0 ≤ n) (g : ∀ k, 0 ≤ k → Y k = some (aH (szL r k), [])) :
    (d.bind fun r => aL r.fst fun l => cL .i64 l fun n => aC (decide (n < 0)) (some (SV.leaf (aB.int .i64 (-1)), [])) (Y n)) = some (aH (szL (a ++ r) n), []) := by
  rw [hd, aHI _ _ _ hn]
  simp only [Option.bind_some, aT, bO, nA]
  by_cases h : szL a n < 0
  · simp [h]
  · simp only [h, decide_false, Bool.false_eq_true, if_false]
    exact g _ (by omega)
theorem gE {d : Res} {es : List (List (aB false))} {Y : Int → Res} (hd : d = some (aH (szF (.sl fP es) n), [])) (g : ∀ k, 0 ≤ k → Y k = some (aH (szL r k), [])) :
    (d.bind fun r => aL r.fst fun l => cL .i64 l fun n => aC (decide (n < 0)) (some (SV.leaf (aB.int .i64 (-1)), [])) (Y n)) = some (aH (szL (.sl fP es :: r) n), []) := by
  rw [hd]
  simp only [Option.bind_some, aT, bO, nA, szL]
  by_cases h : szF (.sl fP es) n < 0
  · simp [h]
  · simp only [h, decide_false, Bool.false_eq_true, if_false]
    exact g _ (by omega)
theorem wU {es : List (List (aB false))} {Y : Res} (g : 0 ≤ IntKind.i64.wrap (n - (es.length : Int)) → Y = some (aH (szE es (IntKind.i64.wrap (n - (es.length : Int)))), [])) :
    aC (decide (IntKind.i64.wrap (n - (es.length : Int)) < 0)) (some (SV.leaf (aB.int .i64 (-1)), [])) Y = some (aH (szF (.sl fP es) n), []) := by
  rw [nA, szF]
  by_cases h : IntKind.i64.wrap (n - (es.length : Int)) < 0
  · simp [h]
  · simp only [h, decide_false, Bool.false_eq_true, if_false]
    exact g (by omega)
theorem uI {e : List (aB false)} {es : List (List (aB false))} {d : Res} {Y : Int → Res} (hd : d = some (aH (szL e n), [])) (g : ∀ k, 0 ≤ k → Y k = some (aH (szE es k), [])) :
    (d.bind fun r => aL r.fst fun l => cL .i64 l fun n => aC (decide (n < 0)) (some (SV.leaf (aB.int .i64 (-1)), [])) (Y n)) = some (aH (szE (e :: es) n), []) := by
  rw [hd]
  simp only [Option.bind_some, aT, bO, nA, szE]
  by_cases h : szL e n < 0
  · simp [h]
  · simp only [h, decide_false, Bool.false_eq_true, if_false]
    exact g _ (by omega)
theorem aOD {s : ByteArray} {es : List (List (aB false))} {Y : Res} (g : 0 ≤ IntKind.i64.wrap (n - (s.size : Int)) → Y = some (aH (szE es (IntKind.i64.wrap (n - (s.size : Int)))), [])) :
    aC (decide (IntKind.i64.wrap (n - (s.size : Int)) < 0)) (some (SV.leaf (aB.int .i64 (-1)), [])) Y = some (aH (szE ([.str s] :: es) n), []) := by
  rw [nA]
  by_cases h : IntKind.i64.wrap (n - (s.size : Int)) < 0
  · simp [h, szE, szL, szF]
  · simp only [h, decide_false, Bool.false_eq_true, if_false, szE, szL, szF]
    exact g (by omega)
end
mutual
def mkF : aB false → Int → Int
  | .str _, k => IntKind.i64.wrap (k + 1)
  | .bool _, k => IntKind.i64.wrap (k + 1)
  | .int _ _, k => IntKind.i64.wrap (k + 1)
  | .sl _ es, k => mkE es k
  | .unk, k => k
  | .nl _, k => k
def mkL : List (aB false) → Int → Int
  | [], k => k
  | l :: r, k => mkL r (mkF l k)
def mkE : List (List (aB false)) → Int → Int
  | [], k => k
  | e :: es, k => mkE es (mkL e k)
end
mutual
def tF : aB false → Nat
  | .sl _ es => es.length + tE es
  | _ => 0
def tL : List (aB false) → Nat
  | [] => 0
  | l :: r => tF l + tL r
def tE : List (List (aB false)) → Nat
  | [] => 0
  | e :: es => tL e + tE es
end
mutual
def okF (z : Nat) : aB false → Prop
  | .str s => s.size ≤ maxLen
  | .sl _ es => es.length ≤ maxLen ∧ okE z es
  | _ => True
def okL (z : Nat) : List (aB false) → Prop
  | [] => True
  | l :: r => okF z l ∧ okL z r
def okE (z : Nat) : List (List (aB false)) → Prop
  | [] => True
  | e :: es => e.length ≤ z ∧ okL z e ∧ okE z es
end
def cap : Int := 4611686018427387904
mutual
theorem aOf {z : Nat} : ∀ (l : aB false) (n : Int), okF z l → 0 ≤ n → n ≤ cap → 0 ≤ szF l n → szF l n ≤ n ∧ (tF l : Int) ≤ n - szF l n
  | .str s, n, ho, h0, hn, h => by
    have hm : maxLen = 9223372036854775807 := rfl
    simp only [okF] at ho
    simp only [szF, tF, cap] at *
    rw [pI (by omega) (by omega)] at h ⊢
    split at h <;> simp_all <;> omega
  | .sl _ es, n, ho, h0, hn, h => by
    have hm : maxLen = 9223372036854775807 := rfl
    simp only [okF] at ho
    simp only [szF, tF] at *
    rw [pI (by simp only [cap] at hn; omega) (by simp only [cap] at hn; omega)] at h ⊢
    by_cases hl : n - (es.length : Int) < 0
    · simp [hl] at h
    · simp only [hl, if_false] at h ⊢
      have := aO9 es (n - es.length) ho.2 (by omega) (by omega) h
      omega
  | .bool _, n, _, _, _, _ => by simp [szF, tF]
  | .int _ _, n, _, _, _, _ => by simp [szF, tF]
  | .unk, n, _, _, _, _ => by simp [szF, tF]
  | .nl _, n, _, _, _, _ => by simp [szF, tF]
theorem aMD {z : Nat} : ∀ (l : List (aB false)) (n : Int), okL z l → 0 ≤ n → n ≤ cap → 0 ≤ szL l n → szL l n ≤ n ∧ (tL l : Int) ≤ n - szL l n
  | [], n, _, _, _, _ => by simp [szL, tL]
  | l :: r, n, ho, h0, hn, h => by
    simp only [okL] at ho
    simp only [szL, tL] at *
    by_cases hl : szF l n < 0
    · simp [hl] at h
    · simp only [hl, if_false] at h ⊢
      have h1 := aOf l n ho.1 h0 hn (by omega)
      have h2 := aMD r _ ho.2 (by omega) (by omega) h
      omega
theorem aO9 {z : Nat} : ∀ (l : List (List (aB false))) (n : Int), okE z l → 0 ≤ n → n ≤ cap → 0 ≤ szE l n → szE l n ≤ n ∧ (tE l : Int) ≤ n - szE l n
  | [], n, _, _, _, _ => by simp [szE, tE]
  | e :: r, n, ho, h0, hn, h => by
    simp only [okE] at ho
    simp only [szE, tE] at *
    by_cases hl : szL e n < 0
    · simp [hl] at h
    · simp only [hl, if_false] at h ⊢
      have h1 := aMD e n ho.2.1 h0 hn (by omega)
      have h2 := aO9 r _ ho.2.2 (by omega) (by omega) h
      omega
end
mutual
theorem aP0 {z : Nat} : ∀ (l : aB false) (k : Int), okF z l → 0 ≤ k → k + 1 + z * tF l ≤ cap → k ≤ mkF l k ∧ mkF l k ≤ k + 1 + z * tF l
  | .str s, k, _, h0, hn => by simp only [mkF, tF, cap] at *; rw [pI (by omega) (by omega)]; omega
  | .bool s, k, _, h0, hn => by simp only [mkF, tF, cap] at *; rw [pI (by omega) (by omega)]; omega
  | .int _ s, k, _, h0, hn => by simp only [mkF, tF, cap] at *; rw [pI (by omega) (by omega)]; omega
  | .unk, k, _, h0, hn => by simp only [mkF, tF]; omega
  | .nl _, k, _, h0, hn => by simp only [mkF, tF]; omega
  | .sl _ es, k, ho, h0, hn => by
    simp only [okF] at ho
    simp only [mkF, tF] at *
    have e : (z : Int) * ((es.length + tE es : Nat) : Int) = z * es.length + z * tE es := by push_cast; rw [Int.mul_add]
    rw [e] at hn ⊢
    have := aMB es k ho.2 h0 (by omega)
    omega
theorem aPb {z : Nat} : ∀ (l : List (aB false)) (k : Int), okL z l → 0 ≤ k → k + l.length + z * tL l ≤ cap → k ≤ mkL l k ∧ mkL l k ≤ k + l.length + z * tL l
  | [], k, _, _, _ => by simp [mkL, tL]
  | l :: r, k, ho, h0, hn => by
    simp only [okL] at ho
    have e : (z : Int) * ((tF l + tL r : Nat) : Int) = z * tF l + z * tL r := by push_cast; rw [Int.mul_add]
    have e2 : (((l :: r).length : Nat) : Int) = r.length + 1 := by simp
    rw [show tL (l :: r) = tF l + tL r by simp [tL], e, e2] at hn ⊢
    rw [show mkL (l :: r) k = mkL r (mkF l k) by simp [mkL]]
    have p1 : 0 ≤ (z : Int) * tF l := Int.mul_nonneg (by omega) (by omega)
    have p2 : 0 ≤ (z : Int) * tL r := Int.mul_nonneg (by omega) (by omega)
    have h1 := aP0 l k ho.1 h0 (by omega)
    have h2 := aPb r (mkF l k) ho.2 (by omega) (by omega)
    omega
theorem aMB {z : Nat} : ∀ (l : List (List (aB false))) (k : Int), okE z l → 0 ≤ k → k + z * l.length + z * tE l ≤ cap → k ≤ mkE l k ∧ mkE l k ≤ k + z * l.length + z * tE l
  | [], k, _, _, _ => by simp [mkE, tE]
  | e :: r, k, ho, h0, hn => by
    simp only [okE] at ho
    have e1 : (z : Int) * ((tL e + tE r : Nat) : Int) = z * tL e + z * tE r := by push_cast; rw [Int.mul_add]
    have e2 : (z : Int) * (((e :: r).length : Nat) : Int) = z * r.length + z := by rw [List.length_cons]; push_cast; rw [Int.mul_add, Int.mul_one]
    rw [show tE (e :: r) = tL e + tE r by simp [tE], e1, e2] at hn ⊢
    rw [show mkE (e :: r) k = mkE r (mkL e k) by simp [mkE]]
    have p1 : 0 ≤ (z : Int) * tL e := Int.mul_nonneg (by omega) (by omega)
    have p2 : 0 ≤ (z : Int) * tE r := Int.mul_nonneg (by omega) (by omega)
    have p3 : 0 ≤ (z : Int) * r.length := Int.mul_nonneg (by omega) (by omega)
    have h1 := aPb e k ho.2.1 h0 (by omega)
    have h2 := aMB r (mkL e k) ho.2.2 (by omega) (by omega)
    omega
end
theorem cC {m : Bool} {l : List (List (aB m))} {i : Nat} (h : i < l.length) : l.getD i [] = l[i] := by simp [List.getD, h]
theorem dR {α : Type} {l : List α} {i : Nat} (h : i < l.length) : l.drop i = l[i] :: l.drop (i + 1) := List.drop_eq_getElem_cons h
theorem aS {m : Bool} {z : Nat} {es : List (List (aB m))} (h : ∀ e ∈ es, e.length = z) : sized z es = true := by
  simp only [sized, List.all_eq_true, beq_iff_eq]; exact h
theorem iC {m m' : Bool} {φ : Fl m → Fl m'} {z : Nat} {es : List (List (aB m))} (h : ∀ e ∈ es, e.length = z) : ∀ e ∈ reE φ es, e.length = z := by
  intro e he
  rw [wD] at he
  obtain ⟨x, hx, rfl⟩ := List.mem_map.1 he
  rw [aAd]; exact h x hx
theorem pW {m m' : Bool} {φ : Fl m → Fl m'} {es : List (List (aB m))} {i : Nat} (h : i < (reE φ es).length) : (reE φ es)[i] = reL φ (es[i]'(by rwa [bL] at h)) := by
  simp only [wD, List.getElem_map]
theorem oC {m m' : Bool} {φ : Fl m → Fl m'} {es : List (List (aB m))} {i : Nat} (h : i < es.length) : (reE φ es).getD i [] = reL φ es[i] := by
  rw [cC (by rwa [bL]), pW (by rwa [bL])]
theorem aMx : ∀ l : List (aB false), soL l = l.map soF
  | [] => by rw [soL]; rfl
  | l :: r => by rw [soL, List.map_cons, aMx r]
theorem aHe : ∀ l : List (List (aB false)), soE l = l.map soL
  | [] => by rw [soE]; rfl
  | l :: r => by rw [soE, List.map_cons, aHe r]
theorem kM (l : List (List (aB false))) : (soE l).length = l.length := by rw [aHe, List.length_map]
theorem rK {z : Nat} {es : List (List (aB false))} (h : ∀ e ∈ es, e.length = z) : ∀ e ∈ soE es, e.length = z := by
  intro e he
  rw [aHe] at he
  obtain ⟨x, hx, rfl⟩ := List.mem_map.1 he
  rw [aMx, List.length_map]; exact h x hx
theorem oG {es : List (List (aB false))} {i : Nat} (h : i < es.length) : (soE es).getD i [] = soL es[i] := by
  rw [aHe, List.getD_eq_getElem?_getD, List.getElem?_map, List.getElem?_eq_getElem h]; rfl
theorem iP {z : Nat} : ∀ {es : List (List (aB false))}, (∀ e ∈ es, e.length ≤ z ∧ okL z e) → okE z es
  | [], _ => by simp [okE]
  | e :: r, h => by
    simp only [okE]
    exact ⟨(h e (by simp)).1, (h e (by simp)).2, iP fun x hx => h x (by simp [hx])⟩
theorem uV : ∀ {es : List (List (aB false))} {e : List (aB false)}, e ∈ es → tL e ≤ tE es
  | x :: r, e, h => by
    simp only [tE]
    rcases List.mem_cons.1 h with rfl | h
    · omega
    · have := uV h; omega
def gB (e : List (aB false)) : Prop := ∃ s : ByteArray, e = [.str s] ∧ s.size ≤ maxLen
theorem gB.len {e : List (aB false)} (h : gB e) : e.length = 1 := by obtain ⟨s, rfl, _⟩ := h; rfl
theorem gB.ok {e : List (aB false)} (h : gB e) : okL 16 e := by obtain ⟨s, rfl, hs⟩ := h; simp only [okL, okF]; exact ⟨hs, trivial⟩
theorem jJ : Fl.isSoft eM = true := rfl
theorem rN {α : Type} {p : Prop} [Decidable p] {a b : α} (h : p) : (if p then a else b) = a := if_pos h
end Go.Vs
namespace Go.Vs
variable {m : Bool}
theorem aJy {v l1 l2 : List (SV m)} {p q : Nat} (hq : q = p + l1.length) (h : p + l1.length + l2.length ≤ v.length) : hM (hM v p l1) q l2 = hM v p (l1 ++ l2) := by
  subst hq
  unfold hM
  have h1 : (v.take p).length = p := by rw [List.length_take]; omega
  have e1 : (v.take p ++ l1 ++ v.drop (p + l1.length)).take (p + l1.length) = v.take p ++ l1 := by
    rw [List.take_append_of_le_length (by rw [List.length_append, h1]; omega), List.take_of_length_le (by rw [List.length_append, h1]; omega)]
  have e2 : (v.take p ++ l1 ++ v.drop (p + l1.length)).drop (p + l1.length + l2.length) = v.drop (p + (l1.length + l2.length)) := by
    rw [List.drop_append, List.drop_of_length_le (by rw [List.length_append, h1]; omega), List.nil_append, List.drop_drop, List.length_append, h1]
    congr 1; omega
  rw [e1, e2, List.length_append]
  simp only [List.append_assoc]
theorem aER {v l : List (SV m)} {p : Nat} (h : p + l.length ≤ v.length) : (hM v p l).length = v.length := by
  unfold hM
  simp only [List.length_append, List.length_take, List.length_drop]
  omega
theorem aGK {α : Type} {z : Nat} : ∀ {l : List (List α)} {i o : Nat} (hl : ∀ e ∈ l, e.length = z) (hi : i < l.length) (ho : o < z), l.flatten[i * z + o]? = (l[i])[o]?
  | e :: l, 0, o, hl, hi, ho => by
    rw [List.flatten_cons, List.getElem?_append_left (by rw [hl e (by simp)]; omega)]
    simp
  | e :: l, i + 1, o, hl, hi, ho => by
    have he := hl e (by simp)
    rw [List.flatten_cons, List.getElem?_append_right (by rw [he, Nat.add_mul]; omega), he]
    have : (i + 1) * z + o - z = i * z + o := by rw [Nat.add_mul]; omega
    rw [this, List.getElem_cons_succ]
    exact aGK (fun e h => hl e (by simp [h])) (by simpa using hi) ho
theorem aNL {β : Type} {l : List (List (aB m))} {z : Nat} {r : List (SV m)} {i o p : Nat} (hl : ∀ e ∈ l, e.length = z) (hi : i < l.length) (ho : o < z) (hp : p = i * z + o) (k : SV m → Option β) :
    aDl (eN l l.length r) p k = k (.leaf ((l[i])[o]'(by rw [hl _ (List.getElem_mem hi)]; exact ho))) := by
  subst hp
  have hlen : l.flatten.length = l.length * z := sU hl
  have hm : i * z + o < l.flatten.length := by
    rw [hlen]
    have : (i + 1) * z ≤ l.length * z := Nat.mul_le_mul_right z hi
    rw [Nat.add_mul] at this; omega
  unfold aDl eN
  rw [List.take_length, List.getElem?_append_left (by rw [List.length_map]; exact hm), List.getElem?_map, aGK hl hi ho, List.getElem?_eq_getElem (by rw [hl _ (List.getElem_mem hi)]; exact ho)]
  rfl
theorem aDm {l : List (List (aB m))} {i : Nat} {r : List (SV m)} (h : r.all SV.flat = true) : (eN l i r).all SV.flat = true := by
  unfold eN
  rw [List.all_append, h, Bool.and_true, List.all_map]
  exact List.all_eq_true.2 fun _ _ => rfl
end Go.Vs
namespace Go.Vs
def msL : List (aB false) → Int → Int
  | [], k => k
  | .sl _ es :: r, k => msL r (mkE es k)
  | .bool _ :: r, k => msL r k
  | .int _ _ :: r, k => msL r k
  | .str _ :: r, k => msL r k
  | .unk :: r, k => msL r k
  | .nl _ :: r, k => msL r k
theorem aHA {z : Nat} : ∀ (l : List (aB false)) (k : Int), okL z l → 0 ≤ k → k + z * tL l ≤ cap → k ≤ msL l k ∧ msL l k ≤ k + z * tL l
  | [], k, _, _, _ => by simp [msL, tL]
  | .sl c es :: r, k, ho, h0, hn => by
    simp only [okL, okF] at ho
    have e1 : (z : Int) * ((tL (.sl c es :: r) : Nat) : Int) = z * es.length + z * tE es + z * tL r := by
      rw [show tL (.sl c es :: r) = es.length + tE es + tL r by simp [tL, tF]]
      push_cast; rw [Int.mul_add, Int.mul_add]
    rw [e1] at hn ⊢
    rw [show msL (.sl c es :: r) k = msL r (mkE es k) by simp [msL]]
    have p1 : 0 ≤ (z : Int) * es.length := Int.mul_nonneg (by omega) (by omega)
    have p2 : 0 ≤ (z : Int) * tE es := Int.mul_nonneg (by omega) (by omega)
    have p3 : 0 ≤ (z : Int) * tL r := Int.mul_nonneg (by omega) (by omega)
    have h1 := aMB es k ho.1.2 h0 (by omega)
    have h2 := aHA r (mkE es k) ho.2 (by omega) (by omega)
    omega
  | .bool b :: r, k, ho, h0, hn => by
    simp only [okL] at ho
    have e : tL (.bool b :: r) = tL r := by simp [tL, tF]
    rw [e] at hn ⊢
    exact aHA r k ho.2 h0 hn
  | .int kk b :: r, k, ho, h0, hn => by
    simp only [okL] at ho
    have e : tL (.int kk b :: r) = tL r := by simp [tL, tF]
    rw [e] at hn ⊢
    exact aHA r k ho.2 h0 hn
  | .str b :: r, k, ho, h0, hn => by
    simp only [okL] at ho
    have e : tL (.str b :: r) = tL r := by simp [tL, tF]
    rw [e] at hn ⊢
    exact aHA r k ho.2 h0 hn
  | .unk :: r, k, ho, h0, hn => by
    simp only [okL] at ho
    have e : tL (.unk :: r) = tL r := by simp [tL, tF]
    rw [e] at hn ⊢
    exact aHA r k ho.2 h0 hn
  | .nl b :: r, k, ho, h0, hn => by
    simp only [okL] at ho
    have e : tL (.nl b :: r) = tL r := by simp [tL, tF]
    rw [e] at hn ⊢
    exact aHA r k ho.2 h0 hn
end Go.Vs
end
section
open Go Go.Vs Go.Proofs
namespace Go.Vs
noncomputable abbrev atA {m : Bool} (D : bA m) (f : FuncId) (x : List Nat × St m) : Ret m := atF Tryz.prog D Hs f x.1 0 x.2
end Go.Vs
end
section
open Go Go.Vs Go.Proofs
set_option maxRecDepth 100000
set_option linter.unusedVariables false
namespace Go.Vs
def iN (c0_0 : Fl true) (e0_0 : LT) (c0_1 : Fl true) (e0_1 : LT) (c0_2 : Fl true) (e0_2 : LT) (s1 : ByteArray) (c2 : Fl true) (e2 : LT) : St true := St.mk [.agg [.sl c0_0 e0_0,.sl c0_1 e0_1,.sl c0_2 e0_2],.leaf (.str s1),.leaf (.sl c2 e2),.any,.any,.any,.any,.any,.any,.any,.any,.any,.any,.any,.any,.any,.any,.any,.any,.any,.any,.any,.any,.any,.any,.any,.any,.any,.any,.any,.any,.any,.any,.any,.any,.any,.any,.any,.any,.any,.any,.any,.any,.any,.any,.any,.any,.any,.any,.any,.any,.any,.any,.any,.any,.any,.any,.any,.any,.any,.any,.any,.any,.any,.any,.any,.any,.any,.any,.any,.any,.any,.any,.any,.any,.any,.any,.any,.any,.any,.any,.any,.any,.any,.any,.any,.any,.any,.any,.any,.any,.any,.any,.any,.any,.any,.any,.any,.any,.any] [none,none,none,none,none,none,none,none,none,none,none,none,none,none,none,none,none,none,none,none,none,none,none,none,none,none,none,none,none,none,none,none,none,none,none,none,none,none,none,none,none,none,none,none,none,none,none,none,none,none,none,none,none,none,none,none,none,none,none,none,none,none,none,none,none,none,none,none,none,none,none,none,none,none,none,none,none,none,none,none,none,none,none,none,none,none,none,none,none,none,none,none,none,none,none,none,none,none,none,none]
theorem fS (D : bA true) (J : PT → Ret true) (c0_0 : Fl true) (e0_0 : LT) (c0_1 : Fl true) (e0_1 : LT) (c0_2 : Fl true) (e0_2 : LT) (s1 : ByteArray) (c2 : Fl true) (e2 : LT) : uO Tryz.prog D Hs F.aQn [way 8] 0 J (way 0,iN c0_0 e0_0 c0_1 e0_1 c0_2 e0_2 s1 c2 e2) = aC (decide ((↑s1.size : Int) > 1048576)) (some (.leaf (.bool true),[])) ((D F.aQ7 [.agg [.sl c0_0 e0_0,.sl c0_1 e0_1,.sl c0_2 e0_2],.leaf (.int .i64 1048576)] []).bind fun r => aL r.fst fun l => cL .i64 l fun n => aC (decide (n < 0)) (some (.leaf (.bool true),[])) ((D F.aRV [.leaf (.sl c2 e2),.leaf (.int .i64 n)] []).bind fun r => aL r.fst fun l => cL .i64 l fun n => aC (decide (n < 0)) (some (.leaf (.bool true),[])) ((D F.aQ6 [.agg [.sl c0_0 e0_0,.sl c0_1 e0_1,.sl c0_2 e0_2]] []).bind fun r => eA r.fst fun cs => aA (cs.length == 3) (atK cs 0 fun l => slK l fun c es => atK cs 1 fun l => slK l fun c_1 es_1 => atK cs 2 fun l => slK l fun c_2 es_2 => (D F.aRH [.leaf (.sl c2 e2)] []).bind fun r => iR r.fst fun c_3 es_3 => (D F.aQp [.agg [.sl c es,.sl c_1 es_1,.sl c_2 es_2],.leaf (.str s1),.leaf (.sl c_3 es_3)] []).bind fun r => kX T.aRj r.fst fun es => J (way 8,St.mk [.any,.leaf (.str s1),.leaf (.sl c2 e2),.ptr 3 0,.any,.any,.any,.any,.own (some T.aRj) es,.any,.any,.any,.any,.any,.any,.any,.any,.any,.any,.any,.any,.any,.any,.any,.any,.any,.any,.any,.any,.any,.any,.any,.any,.any,.any,.any,.any,.any,.any,.any,.any,.any,.any,.any,.any,.any,.any,.any,.any,.any,.any,.any,.any,.any,.any,.any,.any,.any,.any,.any,.any,.any,.any,.any,.any,.any,.any,.any,.any,.any,.any,.any,.any,.any,.any,.any,.any,.any,.any,.any,.any,.any,.any,.any,.any,.any,.any,.any,.any,.any,.any,.any,.any,.any,.any,.any,.any,.any,.any,.any] [none,none,none,some [.leaf (.sl c0_0 e0_0),.leaf (.sl c0_1 e0_1),.leaf (.sl c0_2 e0_2)],none,none,none,none,none,none,none,none,none,none,none,none,none,none,none,none,none,none,none,none,none,none,none,none,none,none,none,none,none,none,none,none,none,none,none,none,none,none,none,none,none,none,none,none,none,none,none,none,none,none,none,none,none,none,none,none,none,none,none,none,none,none,none,none,none,none,none,none,none,none,none,none,none,none,none,none,none,none,none,none,none,none,none,none,none,none,none,none,none,none,none,none,none,none,none,none]))))) := by revert J; refine id ?_; intro J; kernel_rfl
def cP (s1 : ByteArray) (c2 : Fl true) (e2 : LT) (c3 c3_0 : Fl true) (e3_0 : LT) (c3_1 : Fl true) (e3_1 : LT) (c3_2 : Fl true) (e3_2 : LT) (c8 : Fl true) (e8 : LT) : St true := St.mk [.any,.leaf (.str s1),.leaf (.sl c2 e2),.eptr c3 [.sl c3_0 e3_0,.sl c3_1 e3_1,.sl c3_2 e3_2] 0,.any,.any,.any,.any,.leaf (.sl c8 e8),.any,.any,.any,.any,.any,.any,.any,.any,.any,.any,.any,.any,.any,.any,.any,.any,.any,.any,.any,.any,.any,.any,.any,.any,.any,.any,.any,.any,.any,.any,.any,.any,.any,.any,.any,.any,.any,.any,.any,.any,.any,.any,.any,.any,.any,.any,.any,.any,.any,.any,.any,.any,.any,.any,.any,.any,.any,.any,.any,.any,.any,.any,.any,.any,.any,.any,.any,.any,.any,.any,.any,.any,.any,.any,.any,.any,.any,.any,.any,.any,.any,.any,.any,.any,.any,.any,.any,.any,.any,.any,.any] [none,none,none,none,none,none,none,none,none,none,none,none,none,none,none,none,none,none,none,none,none,none,none,none,none,none,none,none,none,none,none,none,none,none,none,none,none,none,none,none,none,none,none,none,none,none,none,none,none,none,none,none,none,none,none,none,none,none,none,none,none,none,none,none,none,none,none,none,none,none,none,none,none,none,none,none,none,none,none,none,none,none,none,none,none,none,none,none,none,none,none,none,none,none,none,none,none,none,none,none]
theorem tI (D : bA true) (J : PT → Ret true) (s1 : ByteArray) (c2 : Fl true) (e2 : LT) (c3 : Fl true) (c3_0 : Fl true) (e3_0 : LT) (c3_1 : Fl true) (e3_1 : LT) (c3_2 : Fl true) (e3_2 : LT) (c8 : Fl true) (e8 : LT) : uO Tryz.prog D Hs F.aQn [way 10] 0 J (way 8,cP s1 c2 e2 c3 c3_0 e3_0 c3_1 e3_1 c3_2 e3_2 c8 e8) = (D F.aQ6 [.agg [.sl c3_0 e3_0,.sl c3_1 e3_1,.sl c3_2 e3_2]] []).bind fun r => eA r.fst fun cs => aA (cs.length == 3) (atK cs 0 fun l => slK l fun c es => atK cs 1 fun l => slK l fun c_1 es_1 => atK cs 2 fun l => slK l fun c_2 es_2 => (D F.aRH [.leaf (.sl c2 e2)] []).bind fun r => iR r.fst fun c_3 es_3 => J (way 10,St.mk [.any,.leaf (.str s1),.leaf (.sl c2 e2),.eptr c3 [.sl c3_0 e3_0,.sl c3_1 e3_1,.sl c3_2 e3_2] 0,.any,.any,.any,.any,.leaf (.sl c8 e8),.ptr 9 0,.leaf (.sl c_3 es_3),.any,.any,.any,.any,.any,.any,.any,.any,.any,.any,.any,.any,.any,.any,.any,.any,.any,.any,.any,.any,.any,.any,.any,.any,.any,.any,.any,.any,.any,.any,.any,.any,.any,.any,.any,.any,.any,.any,.any,.any,.any,.any,.any,.any,.any,.any,.any,.any,.any,.any,.any,.any,.any,.any,.any,.any,.any,.any,.any,.any,.any,.any,.any,.any,.any,.any,.any,.any,.any,.any,.any,.any,.any,.any,.any,.any,.any,.any,.any,.any,.any,.any,.any,.any,.any,.any,.any,.any,.any] [none,none,none,none,none,none,none,none,none,some [.leaf (.sl c es),.leaf (.sl c_1 es_1),.leaf (.sl c_2 es_2)],none,none,none,none,none,none,none,none,none,none,none,none,none,none,none,none,none,none,none,none,none,none,none,none,none,none,none,none,none,none,none,none,none,none,none,none,none,none,none,none,none,none,none,none,none,none,none,none,none,none,none,none,none,none,none,none,none,none,none,none,none,none,none,none,none,none,none,none,none,none,none,none,none,none,none,none,none,none,none,none,none,none,none,none,none,none,none,none,none,none])) := by revert J; refine id ?_; intro J; kernel_rfl
def bI (s1 : ByteArray) (c2 : Fl true) (e2 : LT) (c3 c3_0 : Fl true) (e3_0 : LT) (c3_1 : Fl true) (e3_1 : LT) (c3_2 : Fl true) (e3_2 : LT) (c8 : Fl true) (e8 : LT) (c9 c9_0 : Fl true) (e9_0 : LT) (c9_1 : Fl true) (e9_1 : LT) (c9_2 : Fl true) (e9_2 : LT) (c10 : Fl true) (e10 : LT) : St true := St.mk [.any,.leaf (.str s1),.leaf (.sl c2 e2),.eptr c3 [.sl c3_0 e3_0,.sl c3_1 e3_1,.sl c3_2 e3_2] 0,.any,.any,.any,.any,.leaf (.sl c8 e8),.eptr c9 [.sl c9_0 e9_0,.sl c9_1 e9_1,.sl c9_2 e9_2] 0,.leaf (.sl c10 e10),.any,.any,.any,.any,.any,.any,.any,.any,.any,.any,.any,.any,.any,.any,.any,.any,.any,.any,.any,.any,.any,.any,.any,.any,.any,.any,.any,.any,.any,.any,.any,.any,.any,.any,.any,.any,.any,.any,.any,.any,.any,.any,.any,.any,.any,.any,.any,.any,.any,.any,.any,.any,.any,.any,.any,.any,.any,.any,.any,.any,.any,.any,.any,.any,.any,.any,.any,.any,.any,.any,.any,.any,.any,.any,.any,.any,.any,.any,.any,.any,.any,.any,.any,.any,.any,.any,.any,.any,.any] [none,none,none,none,none,none,none,none,none,none,none,none,none,none,none,none,none,none,none,none,none,none,none,none,none,none,none,none,none,none,none,none,none,none,none,none,none,none,none,none,none,none,none,none,none,none,none,none,none,none,none,none,none,none,none,none,none,none,none,none,none,none,none,none,none,none,none,none,none,none,none,none,none,none,none,none,none,none,none,none,none,none,none,none,none,none,none,none,none,none,none,none,none,none,none,none,none,none,none,none]
theorem tD (D : bA true) (J : PT → Ret true) (s1 : ByteArray) (c2 : Fl true) (e2 : LT) (c3 : Fl true) (c3_0 : Fl true) (e3_0 : LT) (c3_1 : Fl true) (e3_1 : LT) (c3_2 : Fl true) (e3_2 : LT) (c8 : Fl true) (e8 : LT) (c9 : Fl true) (c9_0 : Fl true) (e9_0 : LT) (c9_1 : Fl true) (e9_1 : LT) (c9_2 : Fl true) (e9_2 : LT) (c10 : Fl true) (e10 : LT) : uO Tryz.prog D Hs F.aQn [way 14] 0 J (way 10,bI s1 c2 e2 c3 c3_0 e3_0 c3_1 e3_1 c3_2 e3_2 c8 e8 c9 c9_0 e9_0 c9_1 e9_1 c9_2 e9_2 c10 e10) = (D F.aQo [.agg [.sl c9_0 e9_0,.sl c9_1 e9_1,.sl c9_2 e9_2],.leaf (.str s1),.leaf (.sl c10 e10)] []).bind fun r => kX T.aRj r.fst fun es => (D F.aQF [.leaf (.sl aO es),.leaf (.sl c8 e8)] []).bind fun r => aL r.fst fun l => cU l fun b => aC (!b) (some (.leaf (.bool false),[])) ((D F.aQ6 [.agg [.sl c3_0 e3_0,.sl c3_1 e3_1,.sl c3_2 e3_2]] []).bind fun r => eA r.fst fun cs => aA (cs.length == 3) (atK cs 0 fun l => slK l fun c es_1 => atK cs 1 fun l => slK l fun c_1 es_2 => atK cs 2 fun l => slK l fun c_2 es_3 => (D F.aRe [.agg [.sl c9_0 e9_0,.sl c9_1 e9_1,.sl c9_2 e9_2],.agg [.sl c es_1,.sl c_1 es_2,.sl c_2 es_3]] []).bind fun r => aL r.fst fun l => cU l fun b => aC (!b) (some (.leaf (.bool false),[])) ((D F.aRH [.leaf (.sl c2 e2)] []).bind fun r => iR r.fst fun c es_4 => (D F.aR0 [.leaf (.sl c10 e10),.leaf (.sl c es_4)] []).bind fun r => aL r.fst fun l => cU l fun b => aC (!b) (some (.leaf (.bool false),[])) (J (way 14,St.mk [.any,.leaf (.str s1),.leaf (.sl c2 e2),.eptr c3 [.sl c3_0 e3_0,.sl c3_1 e3_1,.sl c3_2 e3_2] 0,.any,.any,.any,.any,.leaf (.sl c8 e8),.eptr c9 [.sl c9_0 e9_0,.sl c9_1 e9_1,.sl c9_2 e9_2] 0,.leaf (.sl c10 e10),.own (some T.aRj) es,.any,.any,.any,.any,.any,.any,.any,.any,.any,.any,.any,.any,.any,.any,.any,.any,.any,.any,.any,.any,.any,.any,.any,.any,.any,.any,.any,.any,.any,.any,.any,.any,.any,.any,.any,.any,.any,.any,.any,.any,.any,.any,.any,.any,.any,.any,.any,.any,.any,.any,.any,.any,.any,.any,.any,.any,.any,.any,.any,.any,.any,.any,.any,.any,.any,.any,.any,.any,.any,.any,.any,.any,.any,.any,.any,.any,.any,.any,.any,.any,.any,.any,.any,.any,.any,.any,.any,.any] [none,none,none,none,none,none,none,none,none,none,none,none,none,none,none,none,none,none,none,none,none,none,none,none,none,none,none,none,none,none,none,none,none,none,none,none,none,none,none,none,none,none,none,none,none,none,none,none,none,none,none,none,none,none,none,none,none,none,none,none,none,none,none,none,none,none,none,none,none,none,none,none,none,none,none,none,none,none,none,none,none,none,none,none,none,none,none,none,none,none,none,none,none,none,none,none,none,none,none,none]))))) := by revert J; refine id ?_; intro J; kernel_rfl
def bJ (s1 : ByteArray) (c2 : Fl true) (e2 : LT) (c3 c3_0 : Fl true) (e3_0 : LT) (c3_1 : Fl true) (e3_1 : LT) (c3_2 : Fl true) (e3_2 : LT) (c8 : Fl true) (e8 : LT) (c9 c9_0 : Fl true) (e9_0 : LT) (c9_1 : Fl true) (e9_1 : LT) (c9_2 : Fl true) (e9_2 : LT) (c10 : Fl true) (e10 : LT) (c11 : Fl true) (e11 : LT) : St true := St.mk [.any,.leaf (.str s1),.leaf (.sl c2 e2),.eptr c3 [.sl c3_0 e3_0,.sl c3_1 e3_1,.sl c3_2 e3_2] 0,.any,.any,.any,.any,.leaf (.sl c8 e8),.eptr c9 [.sl c9_0 e9_0,.sl c9_1 e9_1,.sl c9_2 e9_2] 0,.leaf (.sl c10 e10),.leaf (.sl c11 e11),.any,.any,.any,.any,.any,.any,.any,.any,.any,.any,.any,.any,.any,.any,.any,.any,.any,.any,.any,.any,.any,.any,.any,.any,.any,.any,.any,.any,.any,.any,.any,.any,.any,.any,.any,.any,.any,.any,.any,.any,.any,.any,.any,.any,.any,.any,.any,.any,.any,.any,.any,.any,.any,.any,.any,.any,.any,.any,.any,.any,.any,.any,.any,.any,.any,.any,.any,.any,.any,.any,.any,.any,.any,.any,.any,.any,.any,.any,.any,.any,.any,.any,.any,.any,.any,.any,.any,.any] [none,none,none,none,none,none,none,none,none,none,none,none,none,none,none,none,none,none,none,none,none,none,none,none,none,none,none,none,none,none,none,none,none,none,none,none,none,none,none,none,none,none,none,none,none,none,none,none,none,none,none,none,none,none,none,none,none,none,none,none,none,none,none,none,none,none,none,none,none,none,none,none,none,none,none,none,none,none,none,none,none,none,none,none,none,none,none,none,none,none,none,none,none,none,none,none,none,none,none,none]
theorem tO (D : bA true) (J : PT → Ret true) (s1 : ByteArray) (c2 : Fl true) (e2 : LT) (c3 : Fl true) (c3_0 : Fl true) (e3_0 : LT) (c3_1 : Fl true) (e3_1 : LT) (c3_2 : Fl true) (e3_2 : LT) (c8 : Fl true) (e8 : LT) (c9 : Fl true) (c9_0 : Fl true) (e9_0 : LT) (c9_1 : Fl true) (e9_1 : LT) (c9_2 : Fl true) (e9_2 : LT) (c10 : Fl true) (e10 : LT) (c11 : Fl true) (e11 : LT) : uO Tryz.prog D Hs F.aQn [way 18] 0 J (way 14,bJ s1 c2 e2 c3 c3_0 e3_0 c3_1 e3_1 c3_2 e3_2 c8 e8 c9 c9_0 e9_0 c9_1 e9_1 c9_2 e9_2 c10 e10 c11 e11) = (D F.aQN [.agg [.sl c9_0 e9_0,.sl c9_1 e9_1,.sl c9_2 e9_2],.leaf (.int .i64 1)] []).bind fun r => kQ r.snd (aL r.fst fun l => cL .i64 l fun n => (D F.aRf [.leaf (.sl c10 e10),.leaf (.int .i64 n)] []).bind fun r => kQ r.snd (aL r.fst fun l => cL .i64 l fun n => aC (decide (n < 0) == false) ((D F.aQF [.leaf (.sl c11 e11),.leaf (.sl c8 e8)] []).bind fun r => aL r.fst fun l => cU l fun b => aC (!b) (some (.leaf (.bool false),[])) (J (way 18,St.mk [.any,.leaf (.str s1),.leaf (.sl c2 e2),.eptr c3 [.sl c3_0 e3_0,.sl c3_1 e3_1,.sl c3_2 e3_2] 0,.any,.any,.any,.any,.leaf (.sl c8 e8),.any,.any,.leaf (.sl c11 e11),.any,.any,.any,.any,.any,.any,.any,.any,.any,.any,.any,.any,.any,.any,.any,.any,.any,.any,.any,.any,.any,.any,.any,.any,.any,.any,.any,.any,.any,.any,.any,.any,.any,.any,.any,.any,.any,.any,.any,.any,.any,.any,.any,.any,.any,.any,.any,.any,.any,.any,.any,.any,.any,.any,.any,.any,.any,.any,.any,.any,.any,.any,.any,.any,.any,.any,.any,.any,.any,.any,.any,.any,.any,.any,.any,.any,.any,.any,.any,.any,.any,.any,.any,.any,.any,.any,.any,.any] [none,none,none,none,none,none,none,none,none,none,none,none,none,none,none,none,none,none,none,none,none,none,none,none,none,none,none,none,none,none,none,none,none,none,none,none,none,none,none,none,none,none,none,none,none,none,none,none,none,none,none,none,none,none,none,none,none,none,none,none,none,none,none,none,none,none,none,none,none,none,none,none,none,none,none,none,none,none,none,none,none,none,none,none,none,none,none,none,none,none,none,none,none,none,none,none,none,none,none,none]))) (some (.leaf (.bool false),[])))) := by revert J; refine id ?_; intro J; kernel_rfl
def cQ (s1 : ByteArray) (c2 : Fl true) (e2 : LT) (c3 c3_0 : Fl true) (e3_0 : LT) (c3_1 : Fl true) (e3_1 : LT) (c3_2 : Fl true) (e3_2 : LT) (c8 : Fl true) (e8 : LT) (c11 : Fl true) (e11 : LT) : St true := St.mk [.any,.leaf (.str s1),.leaf (.sl c2 e2),.eptr c3 [.sl c3_0 e3_0,.sl c3_1 e3_1,.sl c3_2 e3_2] 0,.any,.any,.any,.any,.leaf (.sl c8 e8),.any,.any,.leaf (.sl c11 e11),.any,.any,.any,.any,.any,.any,.any,.any,.any,.any,.any,.any,.any,.any,.any,.any,.any,.any,.any,.any,.any,.any,.any,.any,.any,.any,.any,.any,.any,.any,.any,.any,.any,.any,.any,.any,.any,.any,.any,.any,.any,.any,.any,.any,.any,.any,.any,.any,.any,.any,.any,.any,.any,.any,.any,.any,.any,.any,.any,.any,.any,.any,.any,.any,.any,.any,.any,.any,.any,.any,.any,.any,.any,.any,.any,.any,.any,.any,.any,.any,.any,.any,.any,.any,.any,.any,.any,.any] [none,none,none,none,none,none,none,none,none,none,none,none,none,none,none,none,none,none,none,none,none,none,none,none,none,none,none,none,none,none,none,none,none,none,none,none,none,none,none,none,none,none,none,none,none,none,none,none,none,none,none,none,none,none,none,none,none,none,none,none,none,none,none,none,none,none,none,none,none,none,none,none,none,none,none,none,none,none,none,none,none,none,none,none,none,none,none,none,none,none,none,none,none,none,none,none,none,none,none,none]
theorem tJ (D : bA true) (J : PT → Ret true) (s1 : ByteArray) (c2 : Fl true) (e2 : LT) (c3 : Fl true) (c3_0 : Fl true) (e3_0 : LT) (c3_1 : Fl true) (e3_1 : LT) (c3_2 : Fl true) (e3_2 : LT) (c8 : Fl true) (e8 : LT) (c11 : Fl true) (e11 : LT) : uO Tryz.prog D Hs F.aQn [] 0 J (way 18,cQ s1 c2 e2 c3 c3_0 e3_0 c3_1 e3_1 c3_2 e3_2 c8 e8 c11 e11) = (D F.aQv [.leaf (.sl c11 e11),.leaf (.int .i64 1)] []).bind fun r => kQ r.snd (aL r.fst fun l => cL .i64 l fun n => (D F.aQs [.leaf (.sl c11 e11),.leaf (.int .i64 1)] []).bind fun r => kQ r.snd (aL r.fst fun l => cL .i64 l fun n_1 => aC (decide (n_1 < 0)) (some (.leaf (.bool false),[])) (aC (n_1 != n) (some (.leaf (.bool false),[])) ((D F.aQ6 [.agg [.sl c3_0 e3_0,.sl c3_1 e3_1,.sl c3_2 e3_2]] []).bind fun r => eA r.fst fun cs => aA (cs.length == 3) (atK cs 0 fun l => slK l fun c es => atK cs 1 fun l => slK l fun c_1 es_1 => atK cs 2 fun l => slK l fun c_2 es_2 => (D F.aRH [.leaf (.sl c2 e2)] []).bind fun r => iR r.fst fun c_3 es_3 => (D F.aQo [.agg [.sl c es,.sl c_1 es_1,.sl c_2 es_2],.leaf (.str s1),.leaf (.sl c_3 es_3)] []).bind fun r => kX T.aRj r.fst fun es => (D F.aQF [.leaf (.sl aO es),.leaf (.sl c8 e8)] []).bind fun r => aL r.fst fun l => cU l fun b => aC (!b) (some (.leaf (.bool false),[])) ((D F.aQs [.leaf (.sl c11 e11),.leaf (.int .i64 1)] []).bind fun r => kQ r.snd (aL r.fst fun l => cL .i64 l fun n_2 => aC (decide (n_2 < 0)) (some (.leaf (.bool false),[])) (aC (n_2 != n) (some (.leaf (.bool false),[])) (some (.leaf (.bool true),[])))))))))) := by revert J; refine id ?_; intro J; kernel_rfl
def lJ (s1 : ByteArray) (c2 : Fl true) (e2 : LT) (c3 c3_0 : Fl true) (e3_0 : LT) (c3_1 : Fl true) (e3_1 : LT) (c3_2 : Fl true) (e3_2 : LT) (c8 : Fl true) (e8 : LT) (n11 : Nat) (vx11 : List (SV true)) : St true := St.mk [.any,.leaf (.str s1),.leaf (.sl c2 e2),.eptr c3 [.sl c3_0 e3_0,.sl c3_1 e3_1,.sl c3_2 e3_2] 0,.any,.any,.any,.any,.leaf (.sl c8 e8),.any,.any,.bsl 11 3 0 n11,.any,.any,.any,.any,.any,.any,.any,.any,.any,.any,.any,.any,.any,.any,.any,.any,.any,.any,.any,.any,.any,.any,.any,.any,.any,.any,.any,.any,.any,.any,.any,.any,.any,.any,.any,.any,.any,.any,.any,.any,.any,.any,.any,.any,.any,.any,.any,.any,.any,.any,.any,.any,.any,.any,.any,.any,.any,.any,.any,.any,.any,.any,.any,.any,.any,.any,.any,.any,.any,.any,.any,.any,.any,.any,.any,.any,.any,.any,.any,.any,.any,.any,.any,.any,.any,.any,.any,.any] [none,none,none,none,none,none,none,none,none,none,none,some vx11,none,none,none,none,none,none,none,none,none,none,none,none,none,none,none,none,none,none,none,none,none,none,none,none,none,none,none,none,none,none,none,none,none,none,none,none,none,none,none,none,none,none,none,none,none,none,none,none,none,none,none,none,none,none,none,none,none,none,none,none,none,none,none,none,none,none,none,none,none,none,none,none,none,none,none,none,none,none,none,none,none,none,none,none,none,none,none,none]
theorem sL (D : bA true) (J : PT → Ret true) (s1 : ByteArray) (c2 : Fl true) (e2 : LT) (c3 : Fl true) (c3_0 : Fl true) (e3_0 : LT) (c3_1 : Fl true) (e3_1 : LT) (c3_2 : Fl true) (e3_2 : LT) (c8 : Fl true) (e8 : LT) (n11 : Nat) (vx11 : List (SV true)) : uO Tryz.prog D Hs F.aQn [] 0 J (way 18,lJ s1 c2 e2 c3 c3_0 e3_0 c3_1 e3_1 c3_2 e3_2 c8 e8 n11 vx11) = aA ([vx11].all fun x => x.all SV.flat) ((D F.aQv [.bsl 0 3 0 n11,.leaf (.int .i64 1)] [vx11]).bind fun r => qW r.snd fun d r_1 => kQ r_1 (aL r.fst fun l => cL .i64 l fun n => aA ([d].all fun x => x.all SV.flat) ((D F.aQs [.bsl 0 3 0 n11,.leaf (.int .i64 1)] [d]).bind fun r => qW r.snd fun d r_2 => kQ r_2 (aL r.fst fun l => cL .i64 l fun n_1 => aC (decide (n_1 < 0)) (some (.leaf (.bool false),[])) (aC (n_1 != n) (some (.leaf (.bool false),[])) ((D F.aQ6 [.agg [.sl c3_0 e3_0,.sl c3_1 e3_1,.sl c3_2 e3_2]] []).bind fun r => eA r.fst fun cs => aA (cs.length == 3) (atK cs 0 fun l => slK l fun c es => atK cs 1 fun l => slK l fun c_1 es_1 => atK cs 2 fun l => slK l fun c_2 es_2 => (D F.aRH [.leaf (.sl c2 e2)] []).bind fun r => iR r.fst fun c_3 es_3 => (D F.aQo [.agg [.sl c es,.sl c_1 es_1,.sl c_2 es_2],.leaf (.str s1),.leaf (.sl c_3 es_3)] []).bind fun r => kX T.aRj r.fst fun es => (D F.aQF [.leaf (.sl aO es),.leaf (.sl c8 e8)] []).bind fun r => aL r.fst fun l => cU l fun b => aC (!b) (some (.leaf (.bool false),[])) (aA ([d].all fun x => x.all SV.flat) ((D F.aQs [.bsl 0 3 0 n11,.leaf (.int .i64 1)] [d]).bind fun r => qW r.snd fun d r_3 => kQ r_3 (aL r.fst fun l => cL .i64 l fun n_2 => aC (decide (n_2 < 0)) (some (.leaf (.bool false),[])) (aC (n_2 != n) (some (.leaf (.bool false),[])) (some (.leaf (.bool true),[]))))))))))))) := by revert J; refine id ?_; intro J; kernel_rfl
end Go.Vs
end
section
namespace Go.Vs
open Go Go.RowKit
variable {m : Bool} {P : Program} {N : Env} {s : St m} {tmps : Array Value} {w w' : World} {F : Fr} {Ow : Own} {bm : Nat → Nat}
end Go.Vs
end
section
set_option linter.unusedVariables false
namespace Go.Vs
def key (e : El) : List UInt8 := (gV e 0).toList
theorem leT {a b c : List UInt8} (h : a ≤ b) (k : b ≤ c) : a ≤ c := List.le_trans h k
theorem leR (a : List UInt8) : a ≤ a := List.le_refl a
theorem leN {a b : List UInt8} (h : ¬ a ≤ b) : b ≤ a := (List.le_total a b).resolve_left h
theorem leA {a b : List UInt8} (h : a ≤ b) (k : b ≤ a) : a = b := List.le_antisymm h k
theorem ltI {a b : List UInt8} : ¬ a < b ↔ b ≤ a := List.not_lt
def wV (l : List El) : Prop := l.Pairwise fun a b => key a ≤ key b
def qT (out : List El) (x : El) : List El := if (out.getLast?.map key) = some (key x) then out else out ++ [x]
theorem aE4 {out : List El} {x : El} {s : List UInt8} : (∃ e ∈ qT out x, key e = s) ↔ (∃ e ∈ out, key e = s) ∨ key x = s := by
  unfold qT
  split
  · rename_i h
    rw [Option.map_eq_some_iff] at h
    obtain ⟨l, hl, hk⟩ := h
    constructor
    · exact .inl
    · rintro (h | h)
      · exact h
      · exact ⟨l, List.mem_of_getLast? hl, hk.trans h⟩
  · constructor
    · rintro ⟨e, he, hs⟩
      rcases List.mem_append.1 he with he | he
      · exact .inl ⟨e, he, hs⟩
      · rw [List.mem_singleton.1 he] at hs; exact .inr hs
    · rintro (⟨e, he, hs⟩ | h)
      · exact ⟨e, List.mem_append_left _ he, hs⟩
      · exact ⟨x, by simp, h⟩
theorem iH {out : List El} {x e : El} (h : e ∈ qT out x) : e ∈ out ∨ e = x := by
  unfold qT at h
  split at h
  · exact .inl h
  · rcases List.mem_append.1 h with h | h
    · exact .inl h
    · exact .inr (List.mem_singleton.1 h)
theorem yY (out : List El) (x : El) : (qT out x).length ≤ out.length + 1 := by unfold qT; split <;> simp
theorem wA {out : List El} {x : El} (h : wV out) (hx : ∀ o ∈ out, key o ≤ key x) : wV (qT out x) := by
  unfold qT
  split
  · exact h
  · exact List.pairwise_append.2 ⟨h, by simp, fun a ha b hb => by rw [List.mem_singleton.1 hb]; exact hx a ha⟩
def fin (xs ys out : List El) : List El := match xs, ys with
  | [], [] => out
  | x :: xs, [] => fin xs [] (qT out x)
  | [], y :: ys => fin [] ys (qT out y)
  | x :: xs, y :: ys => if key x ≤ key y then fin xs (y :: ys) (qT out x) else fin (x :: xs) ys (qT out y)
termination_by xs.length + ys.length
structure aPV (xs ys out r : List El) : Prop where
  up : wV r
  mem : ∀ s, (∃ e ∈ r, key e = s) ↔ (∃ e ∈ out, key e = s) ∨ (∃ e ∈ xs, key e = s) ∨ ∃ e ∈ ys, key e = s
  len : r.length ≤ out.length + xs.length + ys.length
  sub : ∀ e ∈ r, e ∈ out ∨ e ∈ xs ∨ e ∈ ys
theorem aNi : ∀ (n : Nat) (xs ys out : List El), xs.length + ys.length = n → wV xs → wV ys → wV out → (∀ o ∈ out, ∀ x ∈ xs, key o ≤ key x) → (∀ o ∈ out, ∀ y ∈ ys, key o ≤ key y) → aPV xs ys out (fin xs ys out) := by
  intro n
  induction n using Nat.strongRecOn with
  | ind n ih =>
    intro xs ys out hn hx hy ho h1 h2
    match xs, ys with
    | [], [] => unfold fin; exact ⟨ho, fun s => by simp, by simp, fun e he => .inl he⟩
    | x :: xs, [] =>
      unfold fin
      have hx' := List.pairwise_cons.1 hx
      have j := ih (xs.length + 0) (by simp at hn; omega) xs [] (qT out x) rfl hx'.2 hy (wA ho fun o h => h1 o h x (by simp)) (fun o h z hz => by
        rcases iH h with h | rfl
        · exact h1 o h z (by simp [hz])
        · exact hx'.1 z hz) (fun o h z hz => by simp at hz)
      refine ⟨j.up, fun s => ?_, by have := j.len; have := yY out x; simp at *; omega, fun e he => ?_⟩
      · rw [j.mem, aE4]; simp [or_assoc]
      · rcases j.sub e he with h | h | h
        · rcases iH h with h | rfl
          · exact .inl h
          · exact .inr (.inl (by simp))
        · exact .inr (.inl (by simp [h]))
        · simp at h
    | [], y :: ys =>
      unfold fin
      have hy' := List.pairwise_cons.1 hy
      have j := ih (0 + ys.length) (by simp at hn; omega) [] ys (qT out y) rfl hx hy'.2 (wA ho fun o h => h2 o h y (by simp)) (fun o h z hz => by simp at hz) (fun o h z hz => by
        rcases iH h with h | rfl
        · exact h2 o h z (by simp [hz])
        · exact hy'.1 z hz)
      refine ⟨j.up, fun s => ?_, by have := j.len; have := yY out y; simp at *; omega, fun e he => ?_⟩
      · rw [j.mem, aE4]; simp [or_assoc]
      · rcases j.sub e he with h | h | h
        · rcases iH h with h | rfl
          · exact .inl h
          · exact .inr (.inr (by simp))
        · simp at h
        · exact .inr (.inr (by simp [h]))
    | x :: xs, y :: ys =>
      have hx' := List.pairwise_cons.1 hx
      have hy' := List.pairwise_cons.1 hy
      unfold fin
      by_cases hc : key x ≤ key y
      · rw [if_pos hc]
        have j := ih (xs.length + (y :: ys).length) (by simp at hn ⊢; omega) xs (y :: ys) (qT out x) rfl hx'.2 hy (wA ho fun o h => h1 o h x (by simp)) (fun o h z hz => by
          rcases iH h with h | rfl
          · exact h1 o h z (by simp [hz])
          · exact hx'.1 z hz) (fun o h z hz => by
          rcases iH h with h | rfl
          · exact h2 o h z hz
          · rcases List.mem_cons.1 hz with rfl | hz
            · exact hc
            · exact leT hc (hy'.1 z hz))
        refine ⟨j.up, fun s => ?_, by have := j.len; have := yY out x; simp at *; omega, fun e he => ?_⟩
        · rw [j.mem, aE4]; simp [or_assoc]
        · rcases j.sub e he with h | h | h
          · rcases iH h with h | rfl
            · exact .inl h
            · exact .inr (.inl (by simp))
          · exact .inr (.inl (by simp [h]))
          · exact .inr (.inr h)
      · rw [if_neg hc]
        have hc' := leN hc
        have j := ih ((x :: xs).length + ys.length) (by simp at hn ⊢; omega) (x :: xs) ys (qT out y) rfl hx hy'.2 (wA ho fun o h => h2 o h y (by simp)) (fun o h z hz => by
          rcases iH h with h | rfl
          · exact h1 o h z hz
          · rcases List.mem_cons.1 hz with rfl | hz
            · exact hc'
            · exact leT hc' (hx'.1 z hz)) (fun o h z hz => by
          rcases iH h with h | rfl
          · exact h2 o h z (by simp [hz])
          · exact hy'.1 z hz)
        refine ⟨j.up, fun s => ?_, by have := j.len; have := yY out y; simp at *; omega, fun e he => ?_⟩
        · rw [j.mem, aE4]
          simp only [List.mem_cons, exists_eq_or_imp]
          constructor
          · rintro ((h | h) | h | h) <;> simp [h]
          · rintro (h | (h | h) | h | h) <;> simp [h]
        · rcases j.sub e he with h | h | h
          · rcases iH h with h | rfl
            · exact .inl h
            · exact .inr (.inr (by simp))
          · exact .inr (.inl h)
          · exact .inr (.inr (by simp [h]))
end Go.Vs
end
section
set_option linter.unusedVariables false
namespace Go.Vs
abbrev nul : ByteArray := ByteArray.mk #[]
def aNb : aB false → Bool | .sl _ _ => false | .nl _ => false | _ => true
theorem aNN {φ ψ : Fl false → Fl true} {l : aB false} (h : aNb l = true) : reF φ l = reF ψ l := by cases l <;> first | rfl | simp [aNb] at h
theorem aOv {φ ψ : Fl false → Fl true} {l : List El} (h : ∀ e ∈ l, e.all aNb = true) : reE φ l = reE ψ l := by
  rw [wD, wD]
  refine List.map_congr_left fun e he => ?_
  rw [rU, rU]
  exact List.map_congr_left fun x hx => aNN (List.all_eq_true.1 (h e he) x hx)
def lI (p : El → Bool) : Int → List El → Int
  | _, [] => -1
  | i, e :: es => if p e = true then i else lI p (i + 1) es
theorem aKa (p : El → Bool) : ∀ (es : List El) (i : Int), 0 ≤ i → lI p i es = -1 ∨ (i ≤ lI p i es ∧ lI p i es < i + es.length)
  | [], i, h => .inl rfl
  | e :: es, i, h => by
    unfold lI
    split
    · right; simp; omega
    · rcases aKa p es (i + 1) (by omega) with h1 | h1
      · exact .inl h1
      · right; simp only [List.length_cons]; push_cast; omega
theorem aMR (p : El → Bool) : ∀ (es : List El) (i j : Nat), lI p (i : Int) es = (j : Int) → ∃ h : j - i < es.length, i ≤ j ∧ p es[j - i] = true
  | [], i, j, h => by simp [lI] at h
  | e :: es, i, j, h => by
    unfold lI at h
    split at h
    · rename_i hp
      have : i = j := by omega
      subst this
      refine ⟨by simp, Nat.le_refl _, ?_⟩
      simp only [Nat.sub_self, List.getElem_cons_zero]; exact hp
    · obtain ⟨h1, h2, h3⟩ := aMR p es (i + 1) j (by push_cast; exact h)
      have hj : j - i = (j - (i + 1)) + 1 := by omega
      refine ⟨by simp; omega, by omega, ?_⟩
      simp only [hj, List.getElem_cons_succ]
      exact h3
theorem aK9 {p : El → Bool} {es : List El} (h : ¬ lI p 0 es < 0) : ∃ (j : Nat) (hj : j < es.length), lI p 0 es = (j : Int) ∧ p es[j] = true := by
  rcases aKa p es 0 (by omega) with h1 | ⟨h1, h2⟩
  · omega
  · obtain ⟨j, hj⟩ : ∃ j : Nat, lI p 0 es = (j : Int) := ⟨(lI p 0 es).toNat, by omega⟩
    obtain ⟨a, _, b⟩ := aMR p es 0 j hj
    exact ⟨j, by simpa using a, hj, by simpa using b⟩
theorem aEf (p : El → Bool) : ∀ (es : List El) (i : Int), 0 ≤ i → decide (lI p i es ≥ 0) = es.any p
  | [], i, h => by simp [lI]
  | e :: es, i, h => by
    unfold lI
    cases hp : p e with
    | true => simp [hp]; omega
    | false => simpa [hp] using aEf p es (i + 1) (by omega)
abbrev at0 (s : ByteArray) (e : El) : Bool := (gV e 0).toList == s.toList
abbrev at3 (s : ByteArray) (e : El) : Bool := (gV e 3).toList == s.toList
theorem aOM (a b : List UInt8) : (a == b) = (b == a) := by rw [Bool.eq_iff_iff, beq_iff_eq, beq_iff_eq]; exact eq_comm
section
variable {β : Type} {es : List El}
theorem aNz {p : El → Bool} {A : Int → Option β} {yes : Int → Option β} {no : Option β} (hend : A es.length = no)
    (hstep : ∀ (i : Nat) (hi : i < es.length), A i = aC (p es[i]) (yes i) (A ((i + 1 : Nat) : Int))) :
    ∀ i : Nat, i ≤ es.length → A i = if lI p i (es.drop i) < 0 then no else yes (lI p i (es.drop i)) := by
  refine bS ?_ ?_
  · rw [hend]; simp [lI]
  · intro i hi ih
    rw [hstep i hi, dR hi, ih, nA, show lI p (i : Int) (es[i] :: es.drop (i + 1)) = if p es[i] = true then (i : Int) else lI p (i + 1) (es.drop (i + 1)) from rfl]
    by_cases hp : p es[i] = true
    · rw [if_pos hp, if_pos hp, if_neg (by omega)]
    · rw [if_neg hp, if_neg hp]; push_cast; rfl
theorem aD7 {p : El → Bool} {A : Int → Option β} {yes : Int → Option β} {no : Option β} (hend : A es.length = no)
    (hstep : ∀ (i : Nat) (hi : i < es.length), A i = aC (p es[i]) (yes i) (A ((i + 1 : Nat) : Int))) :
    A 0 = if lI p 0 es < 0 then no else yes (lI p 0 es) := by
  have := aNz hend hstep 0 (Nat.zero_le _)
  simpa using this
theorem aBA {p : El → Bool} {A : Int → Ret false} {bs : List (List (SV false))} (hend : A es.length = some (aH (-1), bs))
    (hstep : ∀ (i : Nat) (hi : i < es.length), A i = aC (p es[i]) (some (aH i, bs)) (A ((i + 1 : Nat) : Int))) : A 0 = some (aH (lI p 0 es), bs) := by
  rw [aD7 (yes := fun i => some (aH i, bs)) hend hstep]
  split
  · rename_i h
    rcases aKa p es 0 (by omega) with h1 | h1
    · rw [h1]
    · omega
  · rfl
theorem aKY {p : El → Bool} {A : Int → Ret false} {bs : List (List (SV false))} (hend : A es.length = some (aM false, bs))
    (hstep : ∀ (i : Nat) (hi : i < es.length), A i = aC (p es[i]) (some (aM true, bs)) (A ((i + 1 : Nat) : Int))) : A 0 = some (aM (es.any p), bs) := by
  rw [show A 0 = _ from (by
    have h := aD7 (yes := fun _ => some (aM true, bs)) hend hstep
    exact h), ← aEf p es 0 (by omega)]
  by_cases hc : lI p 0 es < 0
  · rw [if_pos hc]; simp; omega
  · rw [if_neg hc]; simp; omega
def kO (g : Nat → El → List El) : Nat → List El → List El
  | _, [] => []
  | i, e :: r => g i e ++ kO g (i + 1) r
theorem wK (g : El → List El) : ∀ (l : List El) (i : Nat), kO (fun _ => g) i l = l.flatMap g
  | [], _ => rfl
  | e :: r, i => by rw [kO, wK g r, List.flatMap_cons]
theorem aFN {g : Nat → El → List El} {c : Nat} : ∀ (l : List El) (i : Nat), (∀ (j : Nat) (hj : j < l.length), (g (i + j) l[j]).length ≤ c) → (kO g i l).length ≤ l.length * c
  | [], _, _ => by simp [kO]
  | e :: r, i, h => by
    have h0 := h 0 (by simp)
    have h1 := aFN (g := g) (c := c) r (i + 1) (fun j hj => by have := h (j + 1) (by simpa using hj); simpa [Nat.add_assoc, Nat.add_comm 1 j] using this)
    simp at h0
    rw [kO, List.length_append, List.length_cons, Nat.add_mul]; omega
theorem aFR {g : Nat → El → List El} {x : El} : ∀ (l : List El) (i : Nat), x ∈ kO g i l → ∃ (j : Nat) (hj : j < l.length), x ∈ g (i + j) l[j]
  | [], _, h => by simp [kO] at h
  | e :: r, i, h => by
    rw [kO] at h
    rcases List.mem_append.1 h with h | h
    · exact ⟨0, by simp, by simpa using h⟩
    · obtain ⟨j, hj, hx⟩ := aFR r (i + 1) h
      exact ⟨j + 1, by simpa using hj, by simpa [Nat.add_assoc, Nat.add_comm 1 j] using hx⟩
theorem aOB {g : Nat → El → List El} {A : List El → Int → Option β} {fin : List El → Option β} {c N : Nat} (hg : ∀ (j : Nat) (hj : j < es.length), (g j es[j]).length ≤ c)
    (hend : ∀ out, out.length ≤ N → A out es.length = fin out)
    (hstep : ∀ (i : Nat) (hi : i < es.length) (out : List El), out.length + c ≤ N → A out i = A (out ++ g i es[i]) ((i + 1 : Nat) : Int)) :
    ∀ i : Nat, i ≤ es.length → ∀ out : List El, out.length + (es.length - i) * c ≤ N → A out i = fin (out ++ kO g i (es.drop i)) := by
  refine bS ?_ ?_
  · intro out ho; rw [hend out (by simpa using ho)]; simp [kO]
  · intro i hi ih out ho
    have e1 : (es.length - i) * c = (es.length - (i + 1)) * c + c := by rw [show es.length - i = (es.length - (i + 1)) + 1 by omega, Nat.add_mul, Nat.one_mul]
    rw [hstep i hi out (by omega), ih _ (by have := hg i hi; rw [List.length_append]; omega), dR hi, kO, List.append_assoc]
theorem aNa {g : Nat → El → List El} {A : List El → Int → Option β} {fin : List El → Option β} {c N : Nat} (hg : ∀ (j : Nat) (hj : j < es.length), (g j es[j]).length ≤ c)
    (hend : ∀ out, out.length ≤ N → A out es.length = fin out)
    (hstep : ∀ (i : Nat) (hi : i < es.length) (out : List El), out.length + c ≤ N → A out i = A (out ++ g i es[i]) ((i + 1 : Nat) : Int))
    {out : List El} (ho : out.length + es.length * c ≤ N) : A out 0 = fin (out ++ kO g 0 es) := by
  have := aOB hg hend hstep 0 (Nat.zero_le _) out (by simpa using ho)
  simpa using this
theorem aNp {g : Nat → El → List El} {A : List El → Int → Option β} {fin : List El → Option β} {c N : Nat} (hg : ∀ (j : Nat) (hj : j < es.length), (g j es[j]).length ≤ c)
    (hend : ∀ out, out.length ≤ N → A out es.length = fin out)
    (hstep : ∀ (i : Nat) (hi : i < es.length) (out : List El), out.length + c ≤ N → A out i = A (out ++ g i es[i]) ((i + 1 : Nat) : Int))
    (ho : es.length * c ≤ N) : A [] 0 = fin (kO g 0 es) :=
  aNa hg hend hstep (out := []) (by simpa using ho)
end
def ifP (q : Bool) (x : El) : List El := if q = true then [x] else []
theorem aEG (q : Bool) (x : El) : (ifP q x).length ≤ 1 := by unfold ifP; split <;> simp
theorem aMJ {q : Bool} {x y : El} (h : y ∈ ifP q x) : q = true ∧ y = x := by unfold ifP at h; split at h <;> simp_all
@[simp] theorem aA5 (x : El) : ifP true x = [x] := rfl
@[simp] theorem mF (x : El) : ifP false x = [] := rfl
theorem aPW {n k z : Nat} (h : n + k ≤ 1000000000000) (hz : z ≤ 100) : decide ((n + k) * z ≤ aK) = true := by
  have hb : aK = 140737488355328 := rfl
  rw [decide_eq_true_eq]
  calc (n + k) * z ≤ 1000000000000 * 100 := Nat.mul_le_mul h hz
    _ ≤ aK := by rw [hb]; decide
end Go.Vs
end
section
set_option linter.unusedVariables false
namespace Go.Vs
open Go
variable {m : Bool}
end Go.Vs
end
section
set_option linter.unusedVariables false
namespace Go.Vs
open Go Go.RowKit
variable {m : Bool} {P : Program} {N : Env}
theorem Inv.inPlace {a r : SV m} {cs cs' : List (SV m)} {vals : Array Value} {w w' : World} {F : Fr} {Ow : Own} {bm : Nat → Nat} {cur cur' : Array Value} {e : TypeId} {v : Value}
    (h : Inv P { tmps := [a], boxes := [some cs] } vals w F N Ow bm) (hb : w.heap[bm 0]? = some (.cells cur e (0, 0))) (hF : F (bm 0) = 0) (hO : Ow (bm 0) = some (.blk 0))
    (os : w'.os = w.os) (tape : w'.tape = w.tape) (output : w'.output = w.output) (size : w.heap.size ≤ w'.heap.size) (block : ∀ k, k < w.heap.size → k ≠ bm 0 → w'.heap[k]? = w.heap[k]?)
    (hb' : w'.heap[bm 0]? = some (.cells cur' e (0, 0))) (hs : cur'.size = cur.size) (hl : cs'.length ≤ cur'.size)
    (hrep : ∀ (j : Nat) (c : SV m) (u : Value), cs'[j]? = some c → cur'[j]? = some u → aP P w' F N Ow bm (fun b => (aR [some cs'] b).isSome) (.box 0 j) c u)
    (hr : aP P w' F N Ow bm (fun b => (aR [some cs'] b).isSome) (.tmp 0) r v) :
    Inv P { tmps := [r], boxes := [some cs'] } #[v] w' F N Ow bm ∧ Far N w F Ow w' F Ow := by
  have hg : bm 0 < w.heap.size := (Array.getElem?_eq_some_iff.1 hb).1
  have hk : dQ N w F w' F := by
    refine .mk' (fun k j hj => ?_) (fun k => Nat.le_refl _) (jV.but (bm 0) block fun _ => ⟨cur', e, hb'⟩) (BSz.but (bm 0) block (aEc hb hb' hs))
    by_cases hkg : k = bm 0
    · subst hkg; rw [hF] at hj; omega
    · by_cases hks : k < w.heap.size
      · simp only [World.cell?, block k hks hkg]
      · rw [(h.new k (by omega)).1] at hj; omega
  refine ⟨⟨rfl, fun t => ?_, fun b cs2 hc => ?_, h.low.to hk size, fun g hg' => h.new g (Nat.le_trans size hg'), fun b cs2 hc => ?_, fun g hz => ?_⟩, ⟨os, tape, output, size, hk, fun g hgs ho => ⟨fun _ => block g hgs (fun e1 => by subst e1; rw [hO] at ho; simp at ho), rfl, ho⟩⟩⟩
  · cases t with
    | zero => exact hr
    | succ t => simp only [List.getD_cons_succ, List.getD_nil]; exact aP.any
  · cases b with
    | zero =>
      obtain rfl : cs' = cs2 := by simpa [aR] using hc
      exact .inr ⟨cur', e, hb', hl, hF, hO, hrep⟩
    | succ b => simp [aR] at hc
  · cases b with
    | zero => exact h.bmn 0 cs (by simp [aR])
    | succ b => simp [aR] at hc
  · obtain ⟨h1, c1, e1, h2⟩ := h.zow g hz
    have hne : g ≠ bm 0 := fun e2 => by subst e2; rw [hO] at h1; simp at h1
    exact ⟨h1, c1, e1, by rw [block g (Nat.lt_of_lt_of_le (N.lt g hz) h.low.le) hne]; exact h2⟩
end Go.Vs
end
section
set_option linter.unusedVariables false
namespace Go.Vs
open Go Go.RowKit Go.Proofs
variable {P : Program} {N : Env}
def bsB (l : List UInt8) : ByteArray := ⟨l.toArray⟩
def lF (xs : List (List UInt8)) : List (SV false) := xs.map fun x => .leaf (.str (bsB x))
theorem aH9 (xs : List (List UInt8)) : (lF xs).length = xs.length := by simp [lF]
theorem aGc (xs : List (List UInt8)) : ∀ x ∈ lF xs, x.flat = true := fun x hx => by obtain ⟨y, _, rfl⟩ := List.mem_map.1 hx; rfl
theorem aMZ {w w' : World} {blk n : Nat} {cur : Array Value} {e : TypeId} {ys : List (List UInt8)} {os : Array Obj} (hb : w.heap[blk]? = some (.cells cur e (0, 0)))
    (hw : w' = Go.Sort.grow (Go.Sort.putRow encStr (Go.Sort.ahead w n) blk 0 ys.toArray) os) :
    w'.os = w.os ∧ w'.tape = w.tape ∧ w'.output = w.output ∧ w.heap.size ≤ w'.heap.size ∧ (∀ k, k < w.heap.size → k ≠ blk → w'.heap[k]? = w.heap[k]?) ∧
      w'.heap[blk]? = some (.cells (Go.Sort.putCells encStr 0 ys.toArray cur) e (0, 0)) := by
  have hblk : blk < w.heap.size := (Array.getElem?_eq_some_iff.1 hb).1
  have hsz : (Go.Sort.putRow encStr (Go.Sort.ahead w n) blk 0 ys.toArray).heap.size = w.heap.size := by rw [Go.Sort.size_putRow]; rfl
  subst hw
  refine ⟨rfl, rfl, rfl, by rw [Go.Sort.size_grow, hsz]; omega, fun k hk hne => ?_, ?_⟩
  · rw [Go.Sort.heap_grow_old _ _ (by rw [hsz]; exact hk)]
    unfold Go.Sort.putRow Go.Sort.mapBlock
    simp only [Array.getElem?_modify, show ¬ blk = k from fun h => hne h.symm, if_false]
    rfl
  · rw [Go.Sort.heap_grow_old _ _ (by rw [hsz]; exact hblk)]
    unfold Go.Sort.putRow Go.Sort.mapBlock
    simp only [Array.getElem?_modify, if_true]
    show Option.map _ w.heap[blk]? = _
    rw [hb]
    rfl
theorem aLi (ys : List (List UInt8)) (cur : Array Value) : (Go.Sort.putCells encStr 0 ys.toArray cur).size = cur.size := by simp [Go.Sort.putCells]
theorem aPt {ys : List (List UInt8)} {cur : Array Value} {j : Nat} {u : Value} {y : List UInt8} (hy : ys[j]? = some y) (hu : (Go.Sort.putCells encStr 0 ys.toArray cur)[j]? = some u) : u = .string (bsB y) := by
  have hj : j < ys.length := (List.getElem?_eq_some_iff.1 hy).1
  unfold Go.Sort.putCells at hu
  rw [Array.getElem?_mapIdx] at hu
  cases hc : cur[j]? with
  | none => rw [hc] at hu; simp at hu
  | some x =>
    rw [hc] at hu
    simp only [Option.map_some, Option.some.injEq, Nat.zero_le, true_and, Nat.zero_add, List.size_toArray, hj, if_true, Nat.sub_zero] at hu
    rw [← hu, show ys.toArray[j]! = y from by rw [getElem!_pos _ j (by simpa using hj)]; simpa using (List.getElem?_eq_some_iff.1 hy).2]
    rfl
theorem aIX {s : St false} {tmps : Array Value} {w : World} {F : Fr} {Ow : Own} {bm : Nat → Nat} {xs : List (List UInt8)} (h : Inv P s tmps w F N Ow bm) (hs : aR s.boxes 0 = some (lF xs)) (hx : xs ≠ []) :
    ∃ cur e, w.heap[bm 0]? = some (.cells cur e (0, 0)) ∧ xs.length ≤ cur.size ∧ F (bm 0) = 0 ∧ Ow (bm 0) = some (.blk 0) ∧ Go.Sort.Holds encStr w (bm 0) 0 xs.toArray := by
  rcases h.box 0 _ hs with h0 | ⟨cur, e, hb, hl, hF, hO, hr⟩
  · cases xs with
    | nil => exact absurd rfl hx
    | cons x xs => simp [lF] at h0
  · rw [aH9] at hl
    refine ⟨cur, e, hb, hl, hF, hO, fun j hj => ?_⟩
    have hj' : j < xs.length := by simpa using hj
    have hc : cur[j]? = some cur[j] := Array.getElem?_eq_getElem (by omega)
    have := hr j (.leaf (.str (bsB xs[j]))) cur[j] (by simp [lF, hj']) hc
    have hR : dJ w F N (aB.str (bsB xs[j]) : aB false) cur[j] := by simpa [aP, cJ] using this
    have hv : cur[j] = .string (bsB xs[j]) := by generalize cur[j] = u at hR; cases hR; rfl
    refine ⟨?_, ?_⟩
    · simp only [World.cell?, hb, Nat.zero_add]
      rw [if_neg (by simp), hc, hv, getElem!_pos _ j hj]
      simp [bsB]
    · simp only [World.frozen?, hb]
      simp
theorem aIj {a r : SV false} {cs : List (SV false)} {vals : Array Value} {w w' : World} {F : Fr} {Ow : Own} {bm : Nat → Nat} {cur : Array Value} {e : TypeId} {v : Value} {n : Nat} {ys : List (List UInt8)} {os : Array Obj}
    (h : Inv P { tmps := [a], boxes := [some cs] } vals w F N Ow bm) (hb : w.heap[bm 0]? = some (.cells cur e (0, 0))) (hl : ys.length ≤ cur.size) (hF : F (bm 0) = 0) (hO : Ow (bm 0) = some (.blk 0))
    (hw : w' = Go.Sort.grow (Go.Sort.putRow encStr (Go.Sort.ahead w n) (bm 0) 0 ys.toArray) os)
    (hr : aP P w' F N Ow bm (fun b => (aR [some (lF ys)] b).isSome) (.tmp 0) r v) :
    Inv P { tmps := [r], boxes := [some (lF ys)] } #[v] w' F N Ow bm ∧ Far N w F Ow w' F Ow := by
  obtain ⟨f1, f2, f3, f4, f5, f6⟩ := aMZ hb hw
  refine h.inPlace hb hF hO f1 f2 f3 f4 f5 f6 (aLi _ _) (by rw [aH9, aLi]; exact hl) (fun j c u hc hu => ?_) hr
  unfold lF at hc
  rw [List.getElem?_map] at hc
  cases hy : ys[j]? with
  | none => rw [hy] at hc; simp at hc
  | some y =>
    rw [hy] at hc
    simp only [Option.map_some, Option.some.injEq] at hc
    subst hc
    rw [aPt hy hu]
    exact aP.leaf (dJ.str _)
theorem aH7 {a r : SV false} {cs : List (SV false)} {vals : Array Value} {w : World} {F : Fr} {Ow : Own} {bm : Nat → Nat} {v : Value}
    (h : Inv P { tmps := [a], boxes := [some cs] } vals w F N Ow bm) (hr : aP P w F N Ow bm (fun b => (aR [some cs] b).isSome) (.tmp 0) r v) :
    Inv P { tmps := [r], boxes := [some cs] } #[v] w F N Ow bm ∧ Far N w F Ow w F Ow := by
  refine ⟨⟨rfl, fun t => ?_, h.box, h.low, h.new, h.bmn, h.zow⟩, Far.refl _ _ _⟩
  cases t with
  | zero => exact hr
  | succ t => simp only [List.getD_cons_succ, List.getD_nil]; exact aP.any
end Go.Vs
end
