/- What the program's functions compute, read off their text by the shadow runner (KLw0, KPI, KF32, KTold, VsBound, KTa, KTs, KTe, KD); no condition. -/
import Derived.Shelf.Strconv.ParseIntPublic10
import Derived.Test.YtndacingbfeonaaGreatDoorChecked
import Derived.WalkKit
import Derived.Lib.Walk
import Derived.BigCall
import Derived.BigGuard
import Derived.Below
import Derived.Lib.AtoiErrMem
import Derived.Test.YtndacingbfeonaaGreatDoorVB5
section
open Go Go.Vs Go.Proofs
set_option linter.unusedVariables false
set_option linter.unusedSimpArgs false
namespace Go.Vs
section
variable {D : cA false}
def aMP (D : cA false) (l : List FuncId) : Prop := ∀ f ∈ l, ∀ (a : List (SV false)) (b : List (List (SV false))) (r : SV false × List (List (SV false))), aV Tryz.prog D Hs bP f a b = some r → D f a b = some r
theorem aPP (hD : aMP D [F.aV1]) {s : ByteArray} {c : UInt8} : D F.aV1 [.leaf (.str s), .leaf (.str ⟨#[c]⟩)] [] = some (aI (decide (s.data.toList.head? = some c)), []) := by
  refine hD _ (by simp) _ _ _ ?_
  have hn := aGZ s
  have h1 : (ByteArray.mk #[c]).size = 1 := rfl
  rw [mE, h1]
  cases hl : s.data.toList with
  | nil =>
    rw [hl] at hn
    have h0 : ¬ ((s.size : Nat) : Int) ≥ ((1 : Nat) : Int) := by simp at hn; omega
    simp -implicitDefEqProofs only [h0, decide_false, bT, aC]
    rfl
  | cons x r =>
    rw [hl] at hn
    have h0 : ((s.size : Nat) : Int) ≥ ((1 : Nat) : Int) := by simp at hn; omega
    have h2 : 1 ≤ s.size := by omega
    have he : (s.extract 0 1).toList = [x] := by rw [aRB, aIC, hl]; simp
    have h3 : (ByteArray.mk #[c]).toList = [c] := by rw [aRB]
    simp -implicitDefEqProofs only [h0, decide_true, bT, aD, Int.toNat_natCast, h2, aG, he, h3]
    have : (([x] : List UInt8) == [c]) = decide ((x :: r).head? = some c) := by
      by_cases hx : x = c <;> simp [hx]
    rw [this]
theorem aOT (hD : aMP D [F.aV1, F.aV0, F.aWa]) {s : ByteArray} {c : UInt8} : D F.aWa [.leaf (.str s), .leaf (.str ⟨#[c]⟩)] [] = some (.leaf (.str (aFi s c)), []) := by
  have key : D F.aV0 [.leaf (.str s), .leaf (.str ⟨#[c]⟩)] [] = some (.leaf (.str (aFi s c)), []) := by
    refine hD _ (by simp) _ _ _ ?_
    have hn := aGZ s
    rw [tJ, aPP (fun f hf => hD f (by simp at hf; simp [hf])), cB]
    unfold aFi
    by_cases h : s.data.toList.head? = some c
    · have h2 : 1 ≤ s.size := by
        cases hl : s.data.toList with
        | nil => simp [hl] at h
        | cons x r => rw [hl] at hn; simp at hn; omega
      have h1 : (ByteArray.mk #[c]).size = 1 := rfl
      simp -implicitDefEqProofs only [h, decide_true, aD, if_true, h1, Int.toNat_natCast, h2, Nat.le_refl, Bool.and_self, aG]
    · simp -implicitDefEqProofs only [h, decide_false, aC, if_false]
  refine hD _ (by simp) _ _ _ ?_
  rw [aDr, key, aLV]
theorem aSf (hD : aMP D [F.aXa, F.aXy]) {s : ByteArray} (hs : s.size ≤ maxLen) : D F.aXy [.leaf (.str s)] [] = some (aI (s.data.toList.all qX && decide (s.data.toList ≠ [])), []) := by
  have fig : ∀ b : UInt8, D F.aXa [.leaf (.int .u8 (b.toNat : Int))] [] = some (aI (qX b), []) := fun b => by
    refine hD _ (by simp) _ _ _ ?_
    rw [aJv]
    unfold qX
    by_cases h : 48 ≤ b.toNat
    · have h1 : ((b.toNat : Nat) : Int) ≥ 48 := by omega
      have h2 : (((b.toNat : Nat) : Int) ≤ 57) = (b.toNat ≤ 57) := by simp; omega
      simp -implicitDefEqProofs only [h, h1, h2, decide_true, bT, aD, Bool.true_and]
    · have h1 : ¬ ((b.toNat : Nat) : Int) ≥ 48 := by omega
      simp -implicitDefEqProofs only [h, h1, decide_false, bT, aC, Bool.false_and]
  refine hD _ (by simp) _ _ _ ?_
  have hn := aGZ s
  rw [aJU]
  have := aSO (l := s.data.toList) (p := qX) (A := fun i => kI D (wK s s.size i)) (yes := some (aI (decide (s.data.toList ≠ [])), [])) (no := some (aI false, [])) (by
    rw [aBs, hn]
    simp -implicitDefEqProofs only [Int.lt_irrefl, decide_false, aC, aRB]
    have : (!s.data.toList == (ByteArray.mk #[]).data.toList) = decide (s.data.toList ≠ []) := by
      cases s.data.toList <;> simp
    rw [this]) (fun i hi => by
    rw [aBs]
    have hi' : i < s.size := by omega
    have hg : s.data.toList.getD i 0 = s.data.toList[i] := by rw [List.getD_eq_getElem?_getD, List.getElem?_eq_getElem hi]; rfl
    have hw := bA (Nat.lt_of_lt_of_le hi' hs)
    simp -implicitDefEqProofs only [inI, hi', hg, fig, cB, hw])
  rw [this]
  cases s.data.toList.all qX <;> simp
theorem aTS (hD : aMP D [F.aV1, F.aV0, F.aWa, F.aXa, F.aXy, F.aYp]) {s : ByteArray} (hs : s.size ≤ maxLen) : D F.aYp [.leaf (.str s)] [] = some (aI (aEw s.data.toList), []) := by
  refine hD _ (by simp) _ _ _ ?_
  have hn := aGZ s
  have ht := aR7 s
  have htn := aGZ (aFi s 45)
  have hle : (aFi s 45).size ≤ maxLen := by
    have : (aFi s 45).size ≤ s.size := by
      unfold aFi
      split
      · rw [ByteArray.size_extract]; omega
      · exact Nat.le_refl _
    omega
  rw [aMc, aOT (fun f hf => hD f (by simp at hf; rcases hf with h | h | h <;> simp [h])), aLV, aSf (fun f hf => hD f (by simp at hf; rcases hf with h | h <;> simp [h])) hle, cB]
  unfold aEw
  rw [hn, ← ht]
  by_cases h40 : s.size ≤ 40
  · have h40' : ((s.size : Nat) : Int) ≤ 40 := by omega
    simp -implicitDefEqProofs only [h40, h40', decide_true, bT, aD, Bool.true_and]
    cases hd : (aFi s 45).data.toList with
    | nil => simp
    | cons x r =>
      rw [hd] at htn
      have hpos : (0 : Int) < ((aFi s 45).size : Int) := by simp at htn; omega
      simp -implicitDefEqProofs only [ne_eq, List.cons_ne_nil, not_false_eq_true, decide_true, Bool.and_true, Bool.true_and]
      cases (x :: r).all qX with
      | false => simp -implicitDefEqProofs only [aC, Bool.false_and]
      | true =>
        simp -implicitDefEqProofs only [aD, Bool.true_and, aRB, hd, hpos, decide_true, aG, bF, rP]
        cases r with
        | nil =>
          by_cases hx : x = 48
          · subst hx; simp
          · have h1 : (([x] : List UInt8) == (ByteArray.mk #[48]).data.toList) = false := by simp [hx]
            have h2 : ¬ x.toNat = 48 := fun h => hx (by rw [← UInt8.toNat_inj]; simpa using h)
            simp [h1]
            omega
        | cons y r =>
          have h1 : ((x :: y :: r : List UInt8) == (ByteArray.mk #[48]).data.toList) = false := by simp
          simp -implicitDefEqProofs only [h1, aC]
          simp
          congr 1
          rw [Bool.eq_iff_iff]
          simp
          omega
  · have h40' : ¬ ((s.size : Nat) : Int) ≤ 40 := by omega
    simp -implicitDefEqProofs only [h40, h40', decide_false, bT, aC, Bool.false_and]
end
end Go.Vs
end
section
namespace Go.Proofs
open Go.Shelf
def Tryz.laysC174_ren : Go.Shelf.Ren := ⟨fun | 174 => 226 | 247 => 233 | 245 => 234 | 287 => 238 | 279 => 239 | 280 => 240 | 281 => 241 | 282 => 242 | 321 => 245 | 322 => 246 | 316 => 247 | 171 => 249 | 205 => 248 | 243 => 250 | 246 => 251 | 283 => 252 | 284 => 253 | 285 => 254 | 286 => 255 | 129 => 257 | 317 => 256 | 318 => 258 | 319 => 259 | 320 => 260 | 337 => 261 | 338 => 262 | n => n, fun | 9 => 9 | 3 => 3 | 2 => 2 | 75 => 260 | 85 => 261 | 4 => 4 | 167 => 269 | 5 => 5 | 53 => 270 | 175 => 271 | 46 => 273 | 168 => 274 | 37 => 210 | 0 => 0 | 210 => 280 | 21 => 21 | 127 => 282 | 145 => 285 | 143 => 283 | 171 => 287 | 173 => 290 | 212 => 294 | 51 => 295 | 20 => 20 | 213 => 296 | 232 => 300 | 233 => 301 | 80 => 302 | n => n, fun | 15 => 0 | 16 => 1 | 17 => 2 | 18 => 3 | 19 => 4 | n => n⟩
theorem Tryz.laysC174 : Go.Proofs.LaysC.n174 Tryz.prog Tryz.laysC174_ren := {
  mixed := by kernel_rfl
  f129 := Tryz.func257.trans (congrArg some (by kernel_rfl))
  f171 := Tryz.func249.trans (congrArg some (by kernel_rfl))
  f174 := Tryz.func226.trans (congrArg some (by kernel_rfl))
  f205 := Tryz.func248.trans (congrArg some (by kernel_rfl))
  f243 := Tryz.func250.trans (congrArg some (by kernel_rfl))
  f245 := Tryz.func234.trans (congrArg some (by kernel_rfl))
  f246 := Tryz.func251.trans (congrArg some (by kernel_rfl))
  f247 := Tryz.func233.trans (congrArg some (by kernel_rfl))
  f279 := Tryz.func239.trans (congrArg some (by kernel_rfl))
  f280 := Tryz.func240.trans (congrArg some (by kernel_rfl))
  f281 := Tryz.func241.trans (congrArg some (by kernel_rfl))
  f282 := Tryz.func242.trans (congrArg some (by kernel_rfl))
  f283 := Tryz.func252.trans (congrArg some (by kernel_rfl))
  f284 := Tryz.func253.trans (congrArg some (by kernel_rfl))
  f285 := Tryz.func254.trans (congrArg some (by kernel_rfl))
  f286 := Tryz.func255.trans (congrArg some (by kernel_rfl))
  f287 := Tryz.func238.trans (congrArg some (by kernel_rfl))
  f316 := Tryz.func247.trans (congrArg some (by kernel_rfl))
  f317 := Tryz.func256.trans (congrArg some (by kernel_rfl))
  f318 := Tryz.func258.trans (congrArg some (by kernel_rfl))
  f319 := Tryz.func259.trans (congrArg some (by kernel_rfl))
  f320 := Tryz.func260.trans (congrArg some (by kernel_rfl))
  f321 := Tryz.func245.trans (congrArg some (by kernel_rfl))
  f322 := Tryz.func246.trans (congrArg some (by kernel_rfl))
  f337 := Tryz.func261.trans (congrArg some (by kernel_rfl))
  f338 := Tryz.func262.trans (congrArg some (by kernel_rfl))
  t0 := Tryz.underlying0
  a0 := Tryz.isAgg0
  z0 := Tryz.sizeOf0
  v0 := Tryz.zeroValue0
  t2 := Tryz.underlying2
  a2 := Tryz.isAgg2
  z2 := Tryz.sizeOf2
  v2 := Tryz.zeroValue2
  t3 := Tryz.underlying3
  a3 := Tryz.isAgg3
  z3 := Tryz.sizeOf3
  v3 := Tryz.zeroValue3
  t4 := Tryz.underlying4
  a4 := Tryz.isAgg4
  z4 := Tryz.sizeOf4
  v4 := Tryz.zeroValue4
  t5 := Tryz.underlying5
  a5 := Tryz.isAgg5
  z5 := Tryz.sizeOf5
  v5 := Tryz.zeroValue5
  t9 := Tryz.underlying9
  a9 := Tryz.isAgg9
  z9 := Tryz.sizeOf9
  v9 := Tryz.zeroValue9
  t20 := Tryz.underlying20
  a20 := Tryz.isAgg20
  z20 := Tryz.sizeOf20
  v20 := Tryz.zeroValue20
  t21 := Tryz.underlying21
  a21 := Tryz.isAgg21
  z21 := Tryz.sizeOf21
  v21 := Tryz.zeroValue21
  t37 := Tryz.underlying210
  a37 := Tryz.isAgg210
  z37 := Tryz.sizeOf210
  v37 := Tryz.zeroValue210
  t46 := Tryz.underlying273
  a46 := Tryz.isAgg273
  z46 := Tryz.sizeOf273
  v46 := Tryz.zeroValue273
  t51 := Tryz.underlying295
  a51 := Tryz.isAgg295
  z51 := Tryz.sizeOf295
  v51 := Tryz.zeroValue295
  t53 := Tryz.underlying270
  a53 := Tryz.isAgg270
  z53 := Tryz.sizeOf270
  v53 := Tryz.zeroValue270
  t75 := Tryz.underlying260
  a75 := Tryz.isAgg260
  z75 := Tryz.sizeOf260
  v75 := Tryz.zeroValue260
  t85 := Tryz.underlying261
  a85 := Tryz.isAgg261
  z85 := Tryz.sizeOf261
  v85 := Tryz.zeroValue261
  t127 := Tryz.underlying282
  a127 := Tryz.isAgg282
  z127 := Tryz.sizeOf282
  v127 := Tryz.zeroValue282
  t143 := Tryz.underlying283
  a143 := Tryz.isAgg283
  z143 := Tryz.sizeOf283
  v143 := Tryz.zeroValue283
  t145 := Tryz.underlying285
  a145 := Tryz.isAgg285
  z145 := Tryz.sizeOf285
  v145 := Tryz.zeroValue285
  t167 := Tryz.underlying269
  a167 := Tryz.isAgg269
  z167 := Tryz.sizeOf269
  v167 := Tryz.zeroValue269
  t168 := Tryz.underlying274
  a168 := Tryz.isAgg274
  z168 := Tryz.sizeOf274
  v168 := Tryz.zeroValue274
  t171 := Tryz.underlying287
  a171 := Tryz.isAgg287
  z171 := Tryz.sizeOf287
  v171 := Tryz.zeroValue287
  t173 := Tryz.underlying290
  a173 := Tryz.isAgg290
  z173 := Tryz.sizeOf290
  v173 := Tryz.zeroValue290
  t175 := Tryz.underlying271
  a175 := Tryz.isAgg271
  z175 := Tryz.sizeOf271
  v175 := Tryz.zeroValue271
  t210 := Tryz.underlying280
  a210 := Tryz.isAgg280
  z210 := Tryz.sizeOf280
  v210 := Tryz.zeroValue280
  t212 := Tryz.underlying294
  a212 := Tryz.isAgg294
  z212 := Tryz.sizeOf294
  v212 := Tryz.zeroValue294
  t213 := Tryz.underlying296
  a213 := Tryz.isAgg296
  z213 := Tryz.sizeOf296
  t232 := Tryz.underlying300
  a232 := Tryz.isAgg300
  z232 := Tryz.sizeOf300
  v232 := Tryz.zeroValue300
  t233 := Tryz.underlying301
  a233 := Tryz.isAgg301
  z233 := Tryz.sizeOf301
  v233 := Tryz.zeroValue301
  g15 := by kernel_rfl
  g16 := by kernel_rfl
  g17 := by kernel_rfl
  g18 := by kernel_rfl
  g19 := by kernel_rfl
  t80 := Tryz.underlying302
  a80 := Tryz.isAgg302
  z80 := Tryz.sizeOf302
  v80 := Tryz.zeroValue302
  i0 := by kernel_rfl
  i2 := by kernel_rfl
  i3 := by kernel_rfl
  i4 := by kernel_rfl
  i5 := by kernel_rfl
  i9 := by kernel_rfl
  i20 := by kernel_rfl
  i21 := by kernel_rfl
  i37 := by kernel_rfl
  i46 := by kernel_rfl
  i51 := by kernel_rfl
  i53 := by kernel_rfl
  i75 := by kernel_rfl
  i80 := by kernel_rfl
  i85 := by kernel_rfl
  i127 := by kernel_rfl
  i143 := by kernel_rfl
  i145 := by kernel_rfl
  i167 := by kernel_rfl
  i168 := by kernel_rfl
  i171 := by kernel_rfl
  i173 := by kernel_rfl
  i175 := by kernel_rfl
  i210 := by kernel_rfl
  i212 := by kernel_rfl
  i232 := by kernel_rfl
  i233 := by kernel_rfl
  m15 := by kernel_rfl
  m16 := by kernel_rfl
  m17 := by kernel_rfl
  m18 := by kernel_rfl
  m19 := by kernel_rfl
  c0 := by kernel_rfl
  c2 := by kernel_rfl
  c3 := by kernel_rfl
  c4 := by kernel_rfl
  c5 := by kernel_rfl
  c9 := by kernel_rfl
  c20 := by kernel_rfl
  c21 := by kernel_rfl
  c37 := by kernel_rfl
  c46 := by kernel_rfl
  c51 := by kernel_rfl
  c53 := by kernel_rfl
  c75 := by kernel_rfl
  c80 := by kernel_rfl
  c85 := by kernel_rfl
  c127 := by kernel_rfl
  c143 := by kernel_rfl
  c145 := by kernel_rfl
  c167 := by kernel_rfl
  c168 := by kernel_rfl
  c171 := by kernel_rfl
  c173 := by kernel_rfl
  c175 := by kernel_rfl
  c210 := by kernel_rfl
  c212 := by kernel_rfl
  c213 := by kernel_rfl
  c232 := by kernel_rfl
  c233 := by kernel_rfl }
open Go.RowKit in
theorem Tryz.strconv_ParseInt_10_at32_ok (s : ByteArray) (hmax : s.size ≤ 9223372036854775806) (v : Int) (h : Lib.parseIntB 32 s.data.toList = .ok v) (w : World) :
    Calls Tryz.prog 226 #[.string s, .int .i64 10, .int .i64 32] w fun e w' => e = .returned (.tuple #[.int .i64 v, .nilIface]) ∧ (w' = w ∨ ∃ t, w' = Lib.bytesWorld w 5 t) := Any.strconv_ParseInt_10_at32_ok Tryz.laysC174 s hmax v h w
open Go.RowKit in
theorem Tryz.strconv_ParseInt_10_at32_none (s : ByteArray) (hlim : s.size ≤ 281474976710656) (h : Lib.parseIntB 32 s.data.toList = Lib.parseIntB 32 []) (ev : Value) (w : World) (hv : w.cell? ⟨0, 0, none⟩ = some ev) (hev : ev = .nilIface ∨ ∃ te pe, ev = .iface te pe) :
    Calls Tryz.prog 226 #[.string s, .int .i64 10, .int .i64 32] w fun e w' => ∃ N, e = .returned (.tuple #[.int .i64 (0), .iface 274 (.pointer (some ⟨N, 0, none⟩))]) ∧ w.heap.size ≤ N ∧ w'.heap[N]? = some (.cells #[.string ⟨#[80, 97, 114, 115, 101, 73, 110, 116]⟩, .string s, ev] 280 (0, 0)) ∧ Below w.heap.size w w' := Any.strconv_ParseInt_10_at32_syntax Tryz.laysC174 s hlim (h.trans (by rfl)) ev w hv hev
open Go.RowKit in
theorem Tryz.strconv_ParseInt_10_at32_range (s : ByteArray) (hlim : s.size ≤ 281474976710656) (h : Lib.parseIntB 32 s.data.toList = .range) (ev : Value) (w : World) (hv : w.cell? ⟨1, 0, none⟩ = some ev) (hev : ev = .nilIface ∨ ∃ te pe, ev = .iface te pe) :
    Calls Tryz.prog 226 #[.string s, .int .i64 10, .int .i64 32] w fun e w' => ∃ N, e = .returned (.tuple #[.int .i64 (Lib.intSat 32 s.data.toList), .iface 274 (.pointer (some ⟨N, 0, none⟩))]) ∧ w.heap.size ≤ N ∧ w'.heap[N]? = some (.cells #[.string ⟨#[80, 97, 114, 115, 101, 73, 110, 116]⟩, .string s, ev] 280 (0, 0)) ∧ Below w.heap.size w w' := Any.strconv_ParseInt_10_at32_range Tryz.laysC174 s hlim h ev w hv hev
end Go.Proofs
end
section
namespace Go.Vs
open Go Go.Proofs Go.RowKit
def f32 (s : ByteArray) : Bool := okB s.data.toList
theorem xS {w w1 w2 : World} (h : Below w.heap.size w w1) (k : Below w1.heap.size w1 w2) : Below w.heap.size w w2 :=
  h.trans ⟨k.os, k.tape, k.output, k.size, fun j hj => k.block j (Nat.lt_of_lt_of_le hj h.size)⟩
theorem aQd {w w1 : World} {e : TypeId} (h : w1 = w ∨ ∃ t, w1 = Lib.bytesWorld w e t) : Below w.heap.size w w1 := by
  rcases h with rfl | ⟨t, rfl⟩
  · exact Below.refl _ _
  · exact Lib.bytesWorld_below w e t
set_option maxHeartbeats 1000000 in
set_option maxRecDepth 100000 in
theorem aPO (s : ByteArray) (hs : s.size ≤ 281474976710656) (ok : Bool) (ev0 ev1 : Value) (w : World) (hv0 : w.cell? ⟨0, 0, none⟩ = some ev0) (hv1 : w.cell? ⟨1, 0, none⟩ = some ev1)
    (he0 : ev0 = .nilIface ∨ ∃ te pe, ev0 = .iface te pe) (he1 : ev1 = .nilIface ∨ ∃ te pe, ev1 = .iface te pe)
    (hI : ∀ w1, Below w.heap.size w w1 → Calls Tryz.prog 227 #[.string s] w1 fun e w' => e = .returned (.bool ok) ∧ Below w1.heap.size w1 w') :
    Calls Tryz.prog 219 #[.string s] w fun e w' => e = .returned (.bool (ok && f32 s)) ∧ Below w.heap.size w w' := by
  cases h : Lib.parseIntB 32 s.data.toList with
  | ok v =>
    have hf : f32 s = true := by unfold f32 okB; rw [h]
    go_enter Tryz.func219, Tryz.ntmps219
    go_wp2_with (first
      | (go_at_call 226; refine (Tryz.strconv_ParseInt_10_at32_ok s (by omega) v h _).mono ?_; rintro e w1 ⟨rfl, hw⟩; have hb1 : Below w.heap.size w w1 := aQd hw)
      | (go_at_call 227; refine (hI _ hb1).mono ?_; rintro e w2 ⟨rfl, hb⟩))
    · go_ret; exact ⟨by simp_all, xS hb1 hb⟩
    · go_ret; exact ⟨by simp_all, xS hb1 hb⟩
  | range =>
    have hf : f32 s = false := by unfold f32 okB; rw [h]
    go_enter Tryz.func219, Tryz.ntmps219
    go_wp2_with (first
      | (go_at_call 226; refine (Tryz.strconv_ParseInt_10_at32_range s hs h ev1 _ hv1 he1).mono ?_; rintro e w1 ⟨N, rfl, _, _, hb1⟩)
      | (go_at_call 227; refine (hI _ hb1).mono ?_; rintro e w2 ⟨rfl, hb⟩))
    · go_ret; exact ⟨by simp_all, xS hb1 hb⟩
    · go_ret; exact ⟨by simp_all, xS hb1 hb⟩
  | _ =>
    have hf : f32 s = false := by unfold f32 okB; rw [h]
    go_enter Tryz.func219, Tryz.ntmps219
    go_wp2_with (first
      | (go_at_call 226; refine (Tryz.strconv_ParseInt_10_at32_none s hs (h.trans (by rfl)) ev0 _ hv0 he0).mono ?_; rintro e w1 ⟨N, rfl, _, _, hb1⟩)
      | (go_at_call 227; refine (hI _ hb1).mono ?_; rintro e w2 ⟨rfl, hb⟩))
    · go_ret; exact ⟨by simp_all, xS hb1 hb⟩
    · go_ret; exact ⟨by simp_all, xS hb1 hb⟩
end Go.Vs
end
section
open Go Go.Vs Go.Proofs
set_option linter.unusedVariables false
set_option linter.unusedSimpArgs false
namespace Go.Vs
noncomputable abbrev Dn0 : cA false := den Tryz.prog (fun _ => none) Hs
theorem aUk (l : List FuncId) : aMP Dn0 l := fun f _ a b r h => aM4 rfl h
theorem hP : Tryz.prog.follows .mixedOrders = true := by kernel_rfl
theorem hG : Tryz.prog.funcs.all (fun fn => !(fn.name == "runtime.NumGoroutine")) = true := by kernel_rfl
def aPL : List (SV false) → List (List (SV false)) → Ret false
  | [.leaf (.str s)], [] => if s.size ≤ 281474976710656 then some (aI (aEw s.data.toList && f32 s), []) else none
  | _, _ => none
def aUh : aLL false := fun f => if f = F.aXX then some aPL else none
def KOf (ev0 ev1 : Value) : aAl := [((0, 0), ev0), ((1, 0), ev1)]
def xL (v : Value) : Prop := v = .nilIface ∨ ∃ te pe, v = .iface te pe
theorem aVq : ∃ fn, Tryz.prog.funcs[F.aXX]? = some fn ∧ (fn.name == "runtime.NumGoroutine") = false ∧ fn.body.isNone = false := ⟨_, Tryz.func219, by kernel_rfl, by kernel_rfl⟩
theorem aRd {N : Env} {ev0 ev1 : Value} (hN : N.K = KOf ev0 ev1) (he0 : xL ev0) (he1 : xL ev1) : aNa Tryz.prog N aUh := by
  intro f t ht g args boxes r hr hh hf
  unfold aUh at ht
  split at ht
  · rename_i hff
    subst hff
    simp -implicitDefEqProofs only [Option.some.injEq] at ht
    subst ht
    replace hr : (if g = F.aXX then aPL args boxes else none) = some r := hr
    split at hr
    · rename_i hg
      subst hg
      unfold aPL at hr
      split at hr
      · rename_i s
        split at hr
        · rename_i hs
          simp -implicitDefEqProofs only [Option.some.injEq] at hr
          subst hr
          refine ⟨rfl, rfl, fun cs hcs => by simp at hcs, aVq, fun w F1 Ow bm vals hI => ?_⟩
          obtain rfl := aUp hI
          have k0 := hI.low.know ((0, 0), ev0) (by rw [hN]; simp [KOf])
          have k1 := hI.low.know ((1, 0), ev1) (by rw [hN]; simp [KOf])
          refine (aPO s hs (aEw s.data.toList) ev0 ev1 w k0.2.2 k1.2.2 he0 he1 fun w1 _ => ?_).mono fun e w' ⟨he, hb⟩ => ?_
          · have hD : mT Tryz.prog (N0 w1 []) Dn0 := aKB hP hG aPv Hs
            have hm : (281474976710656 : Nat) ≤ maxLen := by decide
            have hc : Dn0 F.aYp [.leaf (.str s)] [] = some (aI (aEw s.data.toList), []) := aTS (aUk _) (Nat.le_trans hs hm)
            refine (aRK (K := []) hD hc rfl (vals := #[.string s]) rfl (fun j a v ha hv => ?_)).mono fun e w2 ⟨v, F', Ow', bm', al, he, hv, hb⟩ => ?_
            · cases j with
              | zero =>
                simp -implicitDefEqProofs only [List.getElem?_cons_zero, Option.some.injEq] at ha
                subst ha
                have : v = .string s := by simpa using hv.symm
                subst this
                exact aZ.leaf (eN.str s)
              | succ j => simp at ha
            · have h2 : eN w2 F' (N0 w1 []) (aE.bool (aEw s.data.toList) : aE false) v := by simpa [aZ, eG] using hv
              cases h2
              exact ⟨he, hb⟩
          · exact ⟨_, F1, Ow, he, aSm hI hb (eN.bool _), aRN hI hb⟩
        · simp at hr
      · simp at hr
    · simp at hr
  · simp at ht
end Go.Vs
end
section
set_option linter.unusedVariables false
namespace Go.Vs
mutual
def bdF (B : Nat) : aE false → Prop
  | .str s => s.size ≤ B
  | .sl _ es => es.length ≤ B ∧ bdE B es
  | _ => True
def bdL (B : Nat) : List (aE false) → Prop
  | [] => True
  | l :: r => bdF B l ∧ bdL B r
def bdE (B : Nat) : List (List (aE false)) → Prop
  | [] => True
  | e :: es => bdL B e ∧ bdE B es
end
theorem aDM {B : Nat} : ∀ {es : List (List (aE false))}, bdE B es → ∀ e ∈ es, bdL B e
  | x :: r, h, e, he => by
    rw [bdE] at h
    rcases List.mem_cons.1 he with rfl | he
    · exact h.1
    · exact aDM h.2 e he
mutual
theorem aUV {z B : Nat} (hB : (B : Int) ≤ cap) : ∀ (l : aE false) (n : Int), okF z l → 0 ≤ n → n ≤ B → 0 ≤ szF l n → bdF B l
  | .str s, n, ho, h0, hn, h => by
    have hm : maxLen = 9223372036854775807 := rfl
    simp only [okF] at ho
    simp only [szF, bdF, cap] at *
    rw [qG (by omega) (by omega)] at h
    split at h <;> omega
  | .sl _ es, n, ho, h0, hn, h => by
    have hm : maxLen = 9223372036854775807 := rfl
    simp only [okF] at ho
    simp only [szF, bdF] at *
    rw [qG (by simp only [cap] at hB; omega) (by simp only [cap] at hB; omega)] at h
    by_cases hl : n - (es.length : Int) < 0
    · simp [hl] at h
    · simp only [hl, if_false] at h
      exact ⟨by omega, aTn hB es _ ho.2 (by omega) (by omega) h⟩
  | .bool _, n, _, _, _, _ => by simp [bdF]
  | .int _ _, n, _, _, _, _ => by simp [bdF]
  | .unk, n, _, _, _, _ => by simp [bdF]
  | .nl _, n, _, _, _, _ => by simp [bdF]
theorem aOH {z B : Nat} (hB : (B : Int) ≤ cap) : ∀ (l : List (aE false)) (n : Int), okL z l → 0 ≤ n → n ≤ B → 0 ≤ szL l n → bdL B l
  | [], n, _, _, _, _ => by simp [bdL]
  | l :: r, n, ho, h0, hn, h => by
    simp only [okL] at ho
    simp only [szL, bdL] at *
    by_cases hl : szF l n < 0
    · simp [hl] at h
    · simp only [hl, if_false] at h
      have h1 := aUv l n ho.1 h0 (by omega) (by omega)
      exact ⟨aUV hB l n ho.1 h0 hn (by omega), aOH hB r _ ho.2 (by omega) (by omega) h⟩
theorem aTn {z B : Nat} (hB : (B : Int) ≤ cap) : ∀ (l : List (List (aE false))) (n : Int), okE z l → 0 ≤ n → n ≤ B → 0 ≤ szE l n → bdE B l
  | [], n, _, _, _, _ => by simp [bdE]
  | e :: r, n, ho, h0, hn, h => by
    simp only [okE] at ho
    simp only [szE, bdE] at *
    by_cases hl : szL e n < 0
    · simp [hl] at h
    · simp only [hl, if_false] at h
      have h1 := aPk e n ho.2.1 h0 (by omega) (by omega)
      exact ⟨aOH hB e n ho.2.1 h0 hn (by omega), aTn hB r _ ho.2.2 (by omega) (by omega) h⟩
end
end Go.Vs
end
section
open Go Go.Vs Go.Proofs
set_option linter.unusedVariables false
set_option linter.unusedSimpArgs false
namespace Go.Vs
noncomputable abbrev Dn : cA false := den Go.Proofs.Tryz.prog aUh Hs
theorem aQ {f : FuncId} {a : List (SV false)} {b : List (List (SV false))} {r : SV false × List (List (SV false))} (h : aV Go.Proofs.Tryz.prog Dn Hs bP f a b = some r) (hf : aUh f = none := by rfl) : Dn f a b = some r :=
  aM4 hf h
inductive nV : List (aE false) → Prop
  | mk (s0 : ByteArray) (s1 : ByteArray) (h0 : s0.size ≤ maxLen) (h1 : s1.size ≤ maxLen) : nV [.str s0, .str s1]
theorem nV.ex {ls : List (aE false)} (h : nV ls) : ∃ (s0 : ByteArray) (s1 : ByteArray), ls = [.str s0, .str s1] ∧ s0.size ≤ maxLen ∧ s1.size ≤ maxLen := by
  cases h with
  | mk s0 s1 h0 h1 => exact ⟨s0, s1, rfl, h0, h1⟩
theorem nV.len {ls : List (aE false)} (h : nV ls) : ls.length = 2 := by cases h; rfl
theorem nV.ok {ls : List (aE false)} (h : nV ls) : okL 16 ls := by
  cases h with
  | mk s0 s1 h0 h1 => simp only [okL, okF]; exact ⟨h0, h1, trivial⟩
inductive cZ : List (aE false) → Prop
  | mk (i0 : Int) (s1 : ByteArray) (e2 : List (List (aE false))) (e3 : List (List (aE false))) (h1 : s1.size ≤ maxLen) (h2 : e2.length ≤ maxLen) (q2 : ∀ e ∈ e2, cZ e) (h3 : e3.length ≤ maxLen) (q3 : ∀ e ∈ e3, kZ e) : cZ [.int .i64 i0, .str s1, .sl fP e2, .sl fP e3]
theorem cZ.ex {ls : List (aE false)} (h : cZ ls) : ∃ (i0 : Int) (s1 : ByteArray) (e2 : List (List (aE false))) (e3 : List (List (aE false))), ls = [.int .i64 i0, .str s1, .sl fP e2, .sl fP e3] ∧ s1.size ≤ maxLen ∧ e2.length ≤ maxLen ∧ (∀ e ∈ e2, cZ e) ∧ e3.length ≤ maxLen ∧ (∀ e ∈ e3, kZ e) := by
  cases h with
  | mk i0 s1 e2 e3 h1 h2 q2 h3 q3 => exact ⟨i0, s1, e2, e3, rfl, h1, h2, q2, h3, q3⟩
theorem cZ.len {ls : List (aE false)} (h : cZ ls) : ls.length = 4 := by cases h; rfl
theorem cZ.ok {ls : List (aE false)} (h : cZ ls) : okL 16 ls := by
  induction h with
  | mk i0 s1 e2 e3 h1 h2 q2 h3 q3 ih2 => simp only [okL, okF]; exact ⟨trivial, h1, ⟨h2, nW fun e he => ⟨by have := (q2 e he).len; omega, ih2 e he⟩⟩, ⟨h3, nW fun e he => ⟨by have := (q3 e he).len; omega, (q3 e he).ok⟩⟩, trivial⟩
inductive kO : List (aE false) → Prop
  | mk (s0 : ByteArray) (i1 : Int) (s2 : ByteArray) (e3 : List (List (aE false))) (e4 : List (List (aE false))) (h0 : s0.size ≤ maxLen) (h2 : s2.size ≤ maxLen) (h3 : e3.length ≤ maxLen) (q3 : ∀ e ∈ e3, cZ e) (h4 : e4.length ≤ maxLen) (q4 : ∀ e ∈ e4, kZ e) : kO [.str s0, .int .i64 i1, .str s2, .sl fP e3, .sl fP e4]
theorem kO.ex {ls : List (aE false)} (h : kO ls) : ∃ (s0 : ByteArray) (i1 : Int) (s2 : ByteArray) (e3 : List (List (aE false))) (e4 : List (List (aE false))), ls = [.str s0, .int .i64 i1, .str s2, .sl fP e3, .sl fP e4] ∧ s0.size ≤ maxLen ∧ s2.size ≤ maxLen ∧ e3.length ≤ maxLen ∧ (∀ e ∈ e3, cZ e) ∧ e4.length ≤ maxLen ∧ (∀ e ∈ e4, kZ e) := by
  cases h with
  | mk s0 i1 s2 e3 e4 h0 h2 h3 q3 h4 q4 => exact ⟨s0, i1, s2, e3, e4, rfl, h0, h2, h3, q3, h4, q4⟩
theorem kO.len {ls : List (aE false)} (h : kO ls) : ls.length = 5 := by cases h; rfl
theorem kO.ok {ls : List (aE false)} (h : kO ls) : okL 16 ls := by
  cases h with
  | mk s0 i1 s2 e3 e4 h0 h2 h3 q3 h4 q4 => simp only [okL, okF]; exact ⟨h0, trivial, h2, ⟨h3, nW fun e he => ⟨by have := (q3 e he).len; omega, (q3 e he).ok⟩⟩, ⟨h4, nW fun e he => ⟨by have := (q4 e he).len; omega, (q4 e he).ok⟩⟩, trivial⟩
inductive gR : List (aE false) → Prop
  | mk (s0 : ByteArray) (e1 : List (List (aE false))) (h0 : s0.size ≤ maxLen) (h1 : e1.length ≤ maxLen) (q1 : ∀ e ∈ e1, kO e) : gR [.str s0, .sl fP e1]
theorem gR.ex {ls : List (aE false)} (h : gR ls) : ∃ (s0 : ByteArray) (e1 : List (List (aE false))), ls = [.str s0, .sl fP e1] ∧ s0.size ≤ maxLen ∧ e1.length ≤ maxLen ∧ (∀ e ∈ e1, kO e) := by
  cases h with
  | mk s0 e1 h0 h1 q1 => exact ⟨s0, e1, rfl, h0, h1, q1⟩
theorem gR.len {ls : List (aE false)} (h : gR ls) : ls.length = 2 := by cases h; rfl
theorem gR.ok {ls : List (aE false)} (h : gR ls) : okL 16 ls := by
  cases h with
  | mk s0 e1 h0 h1 q1 => simp only [okL, okF]; exact ⟨h0, ⟨h1, nW fun e he => ⟨by have := (q1 e he).len; omega, (q1 e he).ok⟩⟩, trivial⟩
inductive dH : List (aE false) → Prop
  | mk (s0 : ByteArray) (s1 : ByteArray) (s2 : ByteArray) (s3 : ByteArray) (b4 : Bool) (i5 : Int) (s6 : ByteArray) (e7 : List (List (aE false))) (e8 : List (List (aE false))) (e9 : List (List (aE false))) (h0 : s0.size ≤ maxLen) (h1 : s1.size ≤ maxLen) (h2 : s2.size ≤ maxLen) (h3 : s3.size ≤ maxLen) (h6 : s6.size ≤ maxLen) (h7 : e7.length ≤ maxLen) (q7 : ∀ e ∈ e7, cZ e) (h8 : e8.length ≤ maxLen) (q8 : ∀ e ∈ e8, kZ e) (h9 : e9.length ≤ maxLen) (q9 : ∀ e ∈ e9, gR e) : dH [.str s0, .str s1, .str s2, .str s3, .bool b4, .int .i64 i5, .str s6, .sl fP e7, .sl fP e8, .sl fP e9]
theorem dH.ex {ls : List (aE false)} (h : dH ls) : ∃ (s0 : ByteArray) (s1 : ByteArray) (s2 : ByteArray) (s3 : ByteArray) (b4 : Bool) (i5 : Int) (s6 : ByteArray) (e7 : List (List (aE false))) (e8 : List (List (aE false))) (e9 : List (List (aE false))), ls = [.str s0, .str s1, .str s2, .str s3, .bool b4, .int .i64 i5, .str s6, .sl fP e7, .sl fP e8, .sl fP e9] ∧ s0.size ≤ maxLen ∧ s1.size ≤ maxLen ∧ s2.size ≤ maxLen ∧ s3.size ≤ maxLen ∧ s6.size ≤ maxLen ∧ e7.length ≤ maxLen ∧ (∀ e ∈ e7, cZ e) ∧ e8.length ≤ maxLen ∧ (∀ e ∈ e8, kZ e) ∧ e9.length ≤ maxLen ∧ (∀ e ∈ e9, gR e) := by
  cases h with
  | mk s0 s1 s2 s3 b4 i5 s6 e7 e8 e9 h0 h1 h2 h3 h6 h7 q7 h8 q8 h9 q9 => exact ⟨s0, s1, s2, s3, b4, i5, s6, e7, e8, e9, rfl, h0, h1, h2, h3, h6, h7, q7, h8, q8, h9, q9⟩
theorem dH.len {ls : List (aE false)} (h : dH ls) : ls.length = 10 := by cases h; rfl
theorem dH.ok {ls : List (aE false)} (h : dH ls) : okL 16 ls := by
  cases h with
  | mk s0 s1 s2 s3 b4 i5 s6 e7 e8 e9 h0 h1 h2 h3 h6 h7 q7 h8 q8 h9 q9 => simp only [okL, okF]; exact ⟨h0, h1, h2, h3, trivial, trivial, h6, ⟨h7, nW fun e he => ⟨by have := (q7 e he).len; omega, (q7 e he).ok⟩⟩, ⟨h8, nW fun e he => ⟨by have := (q8 e he).len; omega, (q8 e he).ok⟩⟩, ⟨h9, nW fun e he => ⟨by have := (q9 e he).len; omega, (q9 e he).ok⟩⟩, trivial⟩
inductive cF : List (aE false) → Prop
  | mk (s0 : ByteArray) (s1 : ByteArray) (e2 : List (List (aE false))) (s3 : ByteArray) (s4 : ByteArray) (e5 : List (List (aE false))) (h0 : s0.size ≤ maxLen) (h1 : s1.size ≤ maxLen) (h2 : e2.length ≤ maxLen) (q2 : ∀ e ∈ e2, dH e) (h3 : s3.size ≤ maxLen) (h4 : s4.size ≤ maxLen) (h5 : e5.length ≤ maxLen) (q5 : ∀ e ∈ e5, gR e) : cF [.str s0, .str s1, .sl fP e2, .str s3, .str s4, .sl fP e5]
theorem cF.ex {ls : List (aE false)} (h : cF ls) : ∃ (s0 : ByteArray) (s1 : ByteArray) (e2 : List (List (aE false))) (s3 : ByteArray) (s4 : ByteArray) (e5 : List (List (aE false))), ls = [.str s0, .str s1, .sl fP e2, .str s3, .str s4, .sl fP e5] ∧ s0.size ≤ maxLen ∧ s1.size ≤ maxLen ∧ e2.length ≤ maxLen ∧ (∀ e ∈ e2, dH e) ∧ s3.size ≤ maxLen ∧ s4.size ≤ maxLen ∧ e5.length ≤ maxLen ∧ (∀ e ∈ e5, gR e) := by
  cases h with
  | mk s0 s1 e2 s3 s4 e5 h0 h1 h2 q2 h3 h4 h5 q5 => exact ⟨s0, s1, e2, s3, s4, e5, rfl, h0, h1, h2, q2, h3, h4, h5, q5⟩
theorem cF.len {ls : List (aE false)} (h : cF ls) : ls.length = 6 := by cases h; rfl
theorem cF.ok {ls : List (aE false)} (h : cF ls) : okL 16 ls := by
  cases h with
  | mk s0 s1 e2 s3 s4 e5 h0 h1 h2 q2 h3 h4 h5 q5 => simp only [okL, okF]; exact ⟨h0, h1, ⟨h2, nW fun e he => ⟨by have := (q2 e he).len; omega, (q2 e he).ok⟩⟩, h3, h4, ⟨h5, nW fun e he => ⟨by have := (q5 e he).len; omega, (q5 e he).ok⟩⟩, trivial⟩
inductive cY : List (aE false) → Prop
  | mk (s0 : ByteArray) (s1 : ByteArray) (e2 : List (List (aE false))) (h0 : s0.size ≤ maxLen) (h1 : s1.size ≤ maxLen) (h2 : e2.length ≤ maxLen) (q2 : ∀ e ∈ e2, gR e) : cY [.str s0, .str s1, .sl fP e2]
theorem cY.ex {ls : List (aE false)} (h : cY ls) : ∃ (s0 : ByteArray) (s1 : ByteArray) (e2 : List (List (aE false))), ls = [.str s0, .str s1, .sl fP e2] ∧ s0.size ≤ maxLen ∧ s1.size ≤ maxLen ∧ e2.length ≤ maxLen ∧ (∀ e ∈ e2, gR e) := by
  cases h with
  | mk s0 s1 e2 h0 h1 h2 q2 => exact ⟨s0, s1, e2, rfl, h0, h1, h2, q2⟩
theorem cY.len {ls : List (aE false)} (h : cY ls) : ls.length = 3 := by cases h; rfl
theorem cY.ok {ls : List (aE false)} (h : cY ls) : okL 16 ls := by
  cases h with
  | mk s0 s1 e2 h0 h1 h2 q2 => simp only [okL, okF]; exact ⟨h0, h1, ⟨h2, nW fun e he => ⟨by have := (q2 e he).len; omega, (q2 e he).ok⟩⟩, trivial⟩
inductive eX : List (aE false) → Prop
  | mk (i0 : Int) (s1 : ByteArray) (h1 : s1.size ≤ maxLen) : eX [.int .i64 i0, .str s1]
theorem eX.ex {ls : List (aE false)} (h : eX ls) : ∃ (i0 : Int) (s1 : ByteArray), ls = [.int .i64 i0, .str s1] ∧ s1.size ≤ maxLen := by
  cases h with
  | mk i0 s1 h1 => exact ⟨i0, s1, rfl, h1⟩
theorem eX.len {ls : List (aE false)} (h : eX ls) : ls.length = 2 := by cases h; rfl
theorem eX.ok {ls : List (aE false)} (h : eX ls) : okL 16 ls := by
  cases h with
  | mk i0 s1 h1 => simp only [okL, okF]; exact ⟨trivial, h1, trivial⟩
inductive dM : List (aE false) → Prop
  | mk (i0 : Int) (b1 : Bool) (s2 : ByteArray) (s3 : ByteArray) (e4 : List (List (aE false))) (e5 : List (List (aE false))) (e6 : List (List (aE false))) (e7 : List (List (aE false))) (e8 : List (List (aE false))) (b9 : Bool) (e10 : List (List (aE false))) (h2 : s2.size ≤ maxLen) (h3 : s3.size ≤ maxLen) (h4 : e4.length ≤ maxLen) (q4 : ∀ e ∈ e4, kZ e) (h5 : e5.length ≤ maxLen) (q5 : ∀ e ∈ e5, cF e) (h6 : e6.length ≤ maxLen) (q6 : ∀ e ∈ e6, dH e) (h7 : e7.length ≤ maxLen) (q7 : ∀ e ∈ e7, cY e) (h8 : e8.length ≤ maxLen) (q8 : ∀ e ∈ e8, eX e) (h10 : e10.length ≤ maxLen) (q10 : ∀ e ∈ e10, gR e) : dM [.int .i64 i0, .bool b1, .str s2, .str s3, .sl fP e4, .sl fP e5, .sl fP e6, .sl fP e7, .sl fP e8, .bool b9, .sl fP e10]
theorem dM.ex {ls : List (aE false)} (h : dM ls) : ∃ (i0 : Int) (b1 : Bool) (s2 : ByteArray) (s3 : ByteArray) (e4 : List (List (aE false))) (e5 : List (List (aE false))) (e6 : List (List (aE false))) (e7 : List (List (aE false))) (e8 : List (List (aE false))) (b9 : Bool) (e10 : List (List (aE false))), ls = [.int .i64 i0, .bool b1, .str s2, .str s3, .sl fP e4, .sl fP e5, .sl fP e6, .sl fP e7, .sl fP e8, .bool b9, .sl fP e10] ∧ s2.size ≤ maxLen ∧ s3.size ≤ maxLen ∧ e4.length ≤ maxLen ∧ (∀ e ∈ e4, kZ e) ∧ e5.length ≤ maxLen ∧ (∀ e ∈ e5, cF e) ∧ e6.length ≤ maxLen ∧ (∀ e ∈ e6, dH e) ∧ e7.length ≤ maxLen ∧ (∀ e ∈ e7, cY e) ∧ e8.length ≤ maxLen ∧ (∀ e ∈ e8, eX e) ∧ e10.length ≤ maxLen ∧ (∀ e ∈ e10, gR e) := by
  cases h with
  | mk i0 b1 s2 s3 e4 e5 e6 e7 e8 b9 e10 h2 h3 h4 q4 h5 q5 h6 q6 h7 q7 h8 q8 h10 q10 => exact ⟨i0, b1, s2, s3, e4, e5, e6, e7, e8, b9, e10, rfl, h2, h3, h4, q4, h5, q5, h6, q6, h7, q7, h8, q8, h10, q10⟩
theorem dM.len {ls : List (aE false)} (h : dM ls) : ls.length = 11 := by cases h; rfl
theorem dM.ok {ls : List (aE false)} (h : dM ls) : okL 16 ls := by
  cases h with
  | mk i0 b1 s2 s3 e4 e5 e6 e7 e8 b9 e10 h2 h3 h4 q4 h5 q5 h6 q6 h7 q7 h8 q8 h10 q10 => simp only [okL, okF]; exact ⟨trivial, trivial, h2, h3, ⟨h4, nW fun e he => ⟨by have := (q4 e he).len; omega, (q4 e he).ok⟩⟩, ⟨h5, nW fun e he => ⟨by have := (q5 e he).len; omega, (q5 e he).ok⟩⟩, ⟨h6, nW fun e he => ⟨by have := (q6 e he).len; omega, (q6 e he).ok⟩⟩, ⟨h7, nW fun e he => ⟨by have := (q7 e he).len; omega, (q7 e he).ok⟩⟩, ⟨h8, nW fun e he => ⟨by have := (q8 e he).len; omega, (q8 e he).ok⟩⟩, trivial, ⟨h10, nW fun e he => ⟨by have := (q10 e he).len; omega, (q10 e he).ok⟩⟩, trivial⟩
inductive bQ : List (aE false) → Prop
  | mk (e0 : List (List (aE false))) (e1 : List (List (aE false))) (e2 : List (List (aE false))) (h0 : e0.length ≤ maxLen) (q0 : ∀ e ∈ e0, dM e) (h1 : e1.length ≤ maxLen) (q1 : ∀ e ∈ e1, dM e) (h2 : e2.length ≤ maxLen) (q2 : ∀ e ∈ e2, eX e) : bQ [.sl fP e0, .sl fP e1, .sl fP e2]
theorem bQ.ex {ls : List (aE false)} (h : bQ ls) : ∃ (e0 : List (List (aE false))) (e1 : List (List (aE false))) (e2 : List (List (aE false))), ls = [.sl fP e0, .sl fP e1, .sl fP e2] ∧ e0.length ≤ maxLen ∧ (∀ e ∈ e0, dM e) ∧ e1.length ≤ maxLen ∧ (∀ e ∈ e1, dM e) ∧ e2.length ≤ maxLen ∧ (∀ e ∈ e2, eX e) := by
  cases h with
  | mk e0 e1 e2 h0 q0 h1 q1 h2 q2 => exact ⟨e0, e1, e2, rfl, h0, q0, h1, q1, h2, q2⟩
theorem bQ.len {ls : List (aE false)} (h : bQ ls) : ls.length = 3 := by cases h; rfl
theorem bQ.ok {ls : List (aE false)} (h : bQ ls) : okL 16 ls := by
  cases h with
  | mk e0 e1 e2 h0 q0 h1 q1 h2 q2 => simp only [okL, okF]; exact ⟨⟨h0, nW fun e he => ⟨by have := (q0 e he).len; omega, (q0 e he).ok⟩⟩, ⟨h1, nW fun e he => ⟨by have := (q1 e he).len; omega, (q1 e he).ok⟩⟩, ⟨h2, nW fun e he => ⟨by have := (q2 e he).len; omega, (q2 e he).ok⟩⟩, trivial⟩
inductive dP : List (aE false) → Prop
  | mk (i0 : Int) (s1 : ByteArray) (s2 : ByteArray)  : dP [.int .i64 i0, .str s1, .str s2]
theorem dP.ex {ls : List (aE false)} (h : dP ls) : ∃ (i0 : Int) (s1 : ByteArray) (s2 : ByteArray), ls = [.int .i64 i0, .str s1, .str s2] := by
  cases h with
  | mk i0 s1 s2  => exact ⟨i0, s1, s2, rfl⟩
theorem dP.len {ls : List (aE false)} (h : dP ls) : ls.length = 3 := by cases h; rfl
theorem nV.st {e : El} (h : nV e) : ∃ x : dN, e = x.l ∧ nV x.l := by
  cases h with
  | mk s0 s1 h0 h1 => exact ⟨⟨s0, s1⟩, rfl, .mk s0 s1 h0 h1⟩
theorem nV.of {e : El} (h : nV e) : (dN.of e).l = e := by obtain ⟨x, rfl, _⟩ := h.st; rfl
theorem nV.nosl {e : El} (h : nV e) : e.all aSd = true := by obtain ⟨x, rfl, _⟩ := h.st; rfl
theorem nV.p {x : dN} (h : nV x.l) : (x.a0.size ≤ maxLen) ∧ (x.a1.size ≤ maxLen) := by
  obtain ⟨s0, s1⟩ := x
  have h1 : nV [.str s0, .str s1] := h
  cases h1 with
  | mk _ _ h0 h1 => exact ⟨h0, h1⟩
theorem cZ.st {e : El} (h : cZ e) : ∃ x : cW, e = x.l ∧ cZ x.l := by
  cases h with
  | mk i0 s1 e2 e3 h1 h2 q2 h3 q3 => exact ⟨⟨i0, s1, e2, e3⟩, rfl, .mk i0 s1 e2 e3 h1 h2 q2 h3 q3⟩
theorem cZ.of {e : El} (h : cZ e) : (cW.of e).l = e := by obtain ⟨x, rfl, _⟩ := h.st; rfl
theorem cZ.p {x : cW} (h : cZ x.l) : (x.a1.size ≤ maxLen) ∧ (x.a2.length ≤ maxLen) ∧ (∀ e ∈ x.a2, cZ e) ∧ (x.a3.length ≤ maxLen) ∧ (∀ e ∈ x.a3, kZ e) := by
  obtain ⟨i0, s1, e2, e3⟩ := x
  have h1 : cZ [.int .i64 i0, .str s1, .sl fP e2, .sl fP e3] := h
  cases h1 with
  | mk _ _ _ _ h1 h2 q2 h3 q3 => exact ⟨h1, h2, q2, h3, q3⟩
theorem kO.st {e : El} (h : kO e) : ∃ x : gA, e = x.l ∧ kO x.l := by
  cases h with
  | mk s0 i1 s2 e3 e4 h0 h2 h3 q3 h4 q4 => exact ⟨⟨s0, i1, s2, e3, e4⟩, rfl, .mk s0 i1 s2 e3 e4 h0 h2 h3 q3 h4 q4⟩
theorem kO.of {e : El} (h : kO e) : (gA.of e).l = e := by obtain ⟨x, rfl, _⟩ := h.st; rfl
theorem kO.p {x : gA} (h : kO x.l) : (x.a0.size ≤ maxLen) ∧ (x.a2.size ≤ maxLen) ∧ (x.a3.length ≤ maxLen) ∧ (∀ e ∈ x.a3, cZ e) ∧ (x.a4.length ≤ maxLen) ∧ (∀ e ∈ x.a4, kZ e) := by
  obtain ⟨s0, i1, s2, e3, e4⟩ := x
  have h1 : kO [.str s0, .int .i64 i1, .str s2, .sl fP e3, .sl fP e4] := h
  cases h1 with
  | mk _ _ _ _ _ h0 h2 h3 q3 h4 q4 => exact ⟨h0, h2, h3, q3, h4, q4⟩
theorem gR.st {e : El} (h : gR e) : ∃ x : xI, e = x.l ∧ gR x.l := by
  cases h with
  | mk s0 e1 h0 h1 q1 => exact ⟨⟨s0, e1⟩, rfl, .mk s0 e1 h0 h1 q1⟩
theorem gR.of {e : El} (h : gR e) : (xI.of e).l = e := by obtain ⟨x, rfl, _⟩ := h.st; rfl
theorem gR.p {x : xI} (h : gR x.l) : (x.a0.size ≤ maxLen) ∧ (x.a1.length ≤ maxLen) ∧ (∀ e ∈ x.a1, kO e) := by
  obtain ⟨s0, e1⟩ := x
  have h1 : gR [.str s0, .sl fP e1] := h
  cases h1 with
  | mk _ _ h0 h1 q1 => exact ⟨h0, h1, q1⟩
theorem dH.st {e : El} (h : dH e) : ∃ x : aY, e = x.l ∧ dH x.l := by
  cases h with
  | mk s0 s1 s2 s3 b4 i5 s6 e7 e8 e9 h0 h1 h2 h3 h6 h7 q7 h8 q8 h9 q9 => exact ⟨⟨s0, s1, s2, s3, b4, i5, s6, e7, e8, e9⟩, rfl, .mk s0 s1 s2 s3 b4 i5 s6 e7 e8 e9 h0 h1 h2 h3 h6 h7 q7 h8 q8 h9 q9⟩
theorem dH.of {e : El} (h : dH e) : (aY.of e).l = e := by obtain ⟨x, rfl, _⟩ := h.st; rfl
theorem dH.p {x : aY} (h : dH x.l) : (x.a0.size ≤ maxLen) ∧ (x.a1.size ≤ maxLen) ∧ (x.a2.size ≤ maxLen) ∧ (x.a3.size ≤ maxLen) ∧ (x.a6.size ≤ maxLen) ∧ (x.a7.length ≤ maxLen) ∧ (∀ e ∈ x.a7, cZ e) ∧ (x.a8.length ≤ maxLen) ∧ (∀ e ∈ x.a8, kZ e) ∧ (x.a9.length ≤ maxLen) ∧ (∀ e ∈ x.a9, gR e) := by
  obtain ⟨s0, s1, s2, s3, b4, i5, s6, e7, e8, e9⟩ := x
  have h1 : dH [.str s0, .str s1, .str s2, .str s3, .bool b4, .int .i64 i5, .str s6, .sl fP e7, .sl fP e8, .sl fP e9] := h
  cases h1 with
  | mk _ _ _ _ _ _ _ _ _ _ h0 h1 h2 h3 h6 h7 q7 h8 q8 h9 q9 => exact ⟨h0, h1, h2, h3, h6, h7, q7, h8, q8, h9, q9⟩
theorem cF.st {e : El} (h : cF e) : ∃ x : bK, e = x.l ∧ cF x.l := by
  cases h with
  | mk s0 s1 e2 s3 s4 e5 h0 h1 h2 q2 h3 h4 h5 q5 => exact ⟨⟨s0, s1, e2, s3, s4, e5⟩, rfl, .mk s0 s1 e2 s3 s4 e5 h0 h1 h2 q2 h3 h4 h5 q5⟩
theorem cF.of {e : El} (h : cF e) : (bK.of e).l = e := by obtain ⟨x, rfl, _⟩ := h.st; rfl
theorem cF.p {x : bK} (h : cF x.l) : (x.a0.size ≤ maxLen) ∧ (x.a1.size ≤ maxLen) ∧ (x.a2.length ≤ maxLen) ∧ (∀ e ∈ x.a2, dH e) ∧ (x.a3.size ≤ maxLen) ∧ (x.a4.size ≤ maxLen) ∧ (x.a5.length ≤ maxLen) ∧ (∀ e ∈ x.a5, gR e) := by
  obtain ⟨s0, s1, e2, s3, s4, e5⟩ := x
  have h1 : cF [.str s0, .str s1, .sl fP e2, .str s3, .str s4, .sl fP e5] := h
  cases h1 with
  | mk _ _ _ _ _ _ h0 h1 h2 q2 h3 h4 h5 q5 => exact ⟨h0, h1, h2, q2, h3, h4, h5, q5⟩
theorem cY.st {e : El} (h : cY e) : ∃ x : jS, e = x.l ∧ cY x.l := by
  cases h with
  | mk s0 s1 e2 h0 h1 h2 q2 => exact ⟨⟨s0, s1, e2⟩, rfl, .mk s0 s1 e2 h0 h1 h2 q2⟩
theorem cY.of {e : El} (h : cY e) : (jS.of e).l = e := by obtain ⟨x, rfl, _⟩ := h.st; rfl
theorem cY.p {x : jS} (h : cY x.l) : (x.a0.size ≤ maxLen) ∧ (x.a1.size ≤ maxLen) ∧ (x.a2.length ≤ maxLen) ∧ (∀ e ∈ x.a2, gR e) := by
  obtain ⟨s0, s1, e2⟩ := x
  have h1 : cY [.str s0, .str s1, .sl fP e2] := h
  cases h1 with
  | mk _ _ _ h0 h1 h2 q2 => exact ⟨h0, h1, h2, q2⟩
theorem eX.st {e : El} (h : eX e) : ∃ x : xJ, e = x.l ∧ eX x.l := by
  cases h with
  | mk i0 s1 h1 => exact ⟨⟨i0, s1⟩, rfl, .mk i0 s1 h1⟩
theorem eX.of {e : El} (h : eX e) : (xJ.of e).l = e := by obtain ⟨x, rfl, _⟩ := h.st; rfl
theorem eX.nosl {e : El} (h : eX e) : e.all aSd = true := by obtain ⟨x, rfl, _⟩ := h.st; rfl
theorem eX.p {x : xJ} (h : eX x.l) : (x.a1.size ≤ maxLen) := by
  obtain ⟨i0, s1⟩ := x
  have h1 : eX [.int .i64 i0, .str s1] := h
  cases h1 with
  | mk _ _ h1 => exact h1
theorem dM.st {e : El} (h : dM e) : ∃ x : aF, e = x.l ∧ dM x.l := by
  cases h with
  | mk i0 b1 s2 s3 e4 e5 e6 e7 e8 b9 e10 h2 h3 h4 q4 h5 q5 h6 q6 h7 q7 h8 q8 h10 q10 => exact ⟨⟨i0, b1, s2, s3, e4, e5, e6, e7, e8, b9, e10⟩, rfl, .mk i0 b1 s2 s3 e4 e5 e6 e7 e8 b9 e10 h2 h3 h4 q4 h5 q5 h6 q6 h7 q7 h8 q8 h10 q10⟩
theorem dM.of {e : El} (h : dM e) : (aF.of e).l = e := by obtain ⟨x, rfl, _⟩ := h.st; rfl
theorem dM.p {x : aF} (h : dM x.l) : (x.a2.size ≤ maxLen) ∧ (x.a3.size ≤ maxLen) ∧ (x.a4.length ≤ maxLen) ∧ (∀ e ∈ x.a4, kZ e) ∧ (x.a5.length ≤ maxLen) ∧ (∀ e ∈ x.a5, cF e) ∧ (x.a6.length ≤ maxLen) ∧ (∀ e ∈ x.a6, dH e) ∧ (x.a7.length ≤ maxLen) ∧ (∀ e ∈ x.a7, cY e) ∧ (x.a8.length ≤ maxLen) ∧ (∀ e ∈ x.a8, eX e) ∧ (x.a10.length ≤ maxLen) ∧ (∀ e ∈ x.a10, gR e) := by
  obtain ⟨i0, b1, s2, s3, e4, e5, e6, e7, e8, b9, e10⟩ := x
  have h1 : dM [.int .i64 i0, .bool b1, .str s2, .str s3, .sl fP e4, .sl fP e5, .sl fP e6, .sl fP e7, .sl fP e8, .bool b9, .sl fP e10] := h
  cases h1 with
  | mk _ _ _ _ _ _ _ _ _ _ _ h2 h3 h4 q4 h5 q5 h6 q6 h7 q7 h8 q8 h10 q10 => exact ⟨h2, h3, h4, q4, h5, q5, h6, q6, h7, q7, h8, q8, h10, q10⟩
theorem bQ.st {e : El} (h : bQ e) : ∃ x : bR, e = x.l ∧ bQ x.l := by
  cases h with
  | mk e0 e1 e2 h0 q0 h1 q1 h2 q2 => exact ⟨⟨e0, e1, e2⟩, rfl, .mk e0 e1 e2 h0 q0 h1 q1 h2 q2⟩
theorem bQ.of {e : El} (h : bQ e) : (bR.of e).l = e := by obtain ⟨x, rfl, _⟩ := h.st; rfl
theorem bQ.p {x : bR} (h : bQ x.l) : (x.a0.length ≤ maxLen) ∧ (∀ e ∈ x.a0, dM e) ∧ (x.a1.length ≤ maxLen) ∧ (∀ e ∈ x.a1, dM e) ∧ (x.a2.length ≤ maxLen) ∧ (∀ e ∈ x.a2, eX e) := by
  obtain ⟨e0, e1, e2⟩ := x
  have h1 : bQ [.sl fP e0, .sl fP e1, .sl fP e2] := h
  cases h1 with
  | mk _ _ _ h0 q0 h1 q1 h2 q2 => exact ⟨h0, q0, h1, q1, h2, q2⟩
theorem dP.st {e : El} (h : dP e) : ∃ x : pA, e = x.l ∧ dP x.l := by
  cases h with
  | mk i0 s1 s2 => exact ⟨⟨i0, s1, s2⟩, rfl, .mk i0 s1 s2⟩
theorem dP.of {e : El} (h : dP e) : (pA.of e).l = e := by obtain ⟨x, rfl, _⟩ := h.st; rfl
theorem dP.nosl {e : El} (h : dP e) : e.all aSd = true := by obtain ⟨x, rfl, _⟩ := h.st; rfl
end Go.Vs
end
section
open Go Go.Vs Go.Proofs
set_option linter.unusedVariables false
set_option linter.unusedSimpArgs false
namespace Go.Vs
theorem aGv {es : List (List (aE false))} (hl : es.length ≤ maxLen) (hq : ∀ e ∈ es, kZ e) : ∀ i : Nat, i ≤ es.length → ∀ n : Int, 0 ≤ n →
    iU Dn (rV es n i) = some (aJ (szE (es.drop i) n), []) := by
  refine cT ?_ ?_
  · intro n hn; rw [aAh]; simp [szE]
  · intro i hi ih n hn
    obtain ⟨s, he, hs⟩ := hq _ (List.getElem_mem hi)
    rw [aAh, kP hi]
    simp only [Int.ofNat_lt, hi, decide_true, aD, Int.natCast_nonneg, Bool.and_true, Int.toNat_natCast, aG, bA (Nat.lt_of_lt_of_le hi hl), aR (fun e he => (hq e he).len), bV hi]
    rw [he]
    simp only [cU, cE]
    exact aTN fun hk => ih _ hk
theorem aCD {es : List (List (aE false))} (hl : es.length ≤ maxLen) (hq : ∀ e ∈ es, kZ e) {n : Int} (hn : 0 ≤ n) :
    Dn F.aWL [vsl es, aJ n] [] = some (aJ (szF (.sl fP es) n), []) := by
  refine aQ ?_
  rw [aHt]
  refine aC5 fun hk => ?_
  have := aGv hl hq 0 (Nat.zero_le _) _ hk
  simpa using this
theorem aGU {ls : List (aE false)} (h : nV ls) : ∀ {n : Int}, 0 ≤ n → Dn F.aX7 [.agg ls, aJ n] [] = some (aJ (szL ls n), []) := by
  cases h with
  | mk s0 s1 h0 h1 =>
    intro n hn
    refine aQ ?_
    rw [aLn]
    refine wH fun hn => ?_
    refine wH fun hn => ?_
    rfl
theorem aH6 {es : List (List (aE false))} (hl : es.length ≤ maxLen) (hq : ∀ e ∈ es, cZ e) (hd : ∀ e ∈ es, ∀ n : Int, 0 ≤ n → Dn F.aXF [.agg e, aJ n] [] = some (aJ (szL e n), [])) : ∀ i : Nat, i ≤ es.length → ∀ n : Int, 0 ≤ n →
    jK Dn (tR es n i) = some (aJ (szE (es.drop i) n), []) := by
  refine cT ?_ ?_
  · intro n hn; rw [aBl]; simp [szE]
  · intro i hi ih n hn
    have hci := hd _ (List.getElem_mem hi) n hn
    obtain ⟨i0, s1, e2, e3, he, h1, h2, q2, h3, q3⟩ := (hq _ (List.getElem_mem hi)).ex
    rw [aBl, kP hi]
    simp only [Int.ofNat_lt, hi, decide_true, aD, Int.natCast_nonneg, Bool.and_true, Int.toNat_natCast, aG, bA (Nat.lt_of_lt_of_le hi hl), aR (fun e he => (hq e he).len), bV hi]
    rw [he] at hci ⊢
    simp only [eE, cU, dA, cP, cE, cV, eR]
    exact aBn hci fun k hk => ih k hk
theorem aAZ {es : List (List (aE false))} (hl : es.length ≤ maxLen) (hq : ∀ e ∈ es, cZ e) (hd : ∀ e ∈ es, ∀ n : Int, 0 ≤ n → Dn F.aXF [.agg e, aJ n] [] = some (aJ (szL e n), [])) {n : Int} (hn : 0 ≤ n) :
    Dn F.aW3 [vsl es, aJ n] [] = some (aJ (szF (.sl fP es) n), []) := by
  refine aQ ?_
  rw [aIe]
  refine aC5 fun hk => ?_
  have := aH6 hl hq hd 0 (Nat.zero_le _) _ hk
  simpa using this
theorem aAU {ls : List (aE false)} (h : cZ ls) : ∀ {n : Int}, 0 ≤ n → Dn F.aXF [.agg ls, aJ n] [] = some (aJ (szL ls n), []) := by
  induction h with
  | mk i0 s1 e2 e3 h1 h2 q2 h3 q3 ih2 =>
    intro n hn
    refine aQ ?_
    rw [aKi]
    refine aQD hn ?_
    refine wH fun hn => ?_
    refine lF (aAZ h2 q2 (fun e he n hn => ih2 e he hn) hn) fun k hn => ?_
    refine lF (aCD h3 q3 hn) fun k hn => ?_
    rfl
theorem aSF {es : List (List (aE false))} (hl : es.length ≤ maxLen) (hq : ∀ e ∈ es, cZ e) {n : Int} (hn : 0 ≤ n) : Dn F.aW3 [vsl es, aJ n] [] = some (aJ (szF (.sl fP es) n), []) := aAZ hl hq (fun e he n hn => aAU (hq e he) hn) hn
theorem aJ5 {es : List (List (aE false))} (hl : es.length ≤ maxLen) (hq : ∀ e ∈ es, kO e) (hd : ∀ e ∈ es, ∀ n : Int, 0 ≤ n → Dn F.aYw [.agg e, aJ n] [] = some (aJ (szL e n), [])) : ∀ i : Nat, i ≤ es.length → ∀ n : Int, 0 ≤ n →
    lW Dn (yH es n i) = some (aJ (szE (es.drop i) n), []) := by
  refine cT ?_ ?_
  · intro n hn; rw [aCo]; simp [szE]
  · intro i hi ih n hn
    have hci := hd _ (List.getElem_mem hi) n hn
    obtain ⟨s0, i1, s2, e3, e4, he, h0, h2, h3, q3, h4, q4⟩ := (hq _ (List.getElem_mem hi)).ex
    rw [aCo, kP hi]
    simp only [Int.ofNat_lt, hi, decide_true, aD, Int.natCast_nonneg, Bool.and_true, Int.toNat_natCast, aG, bA (Nat.lt_of_lt_of_le hi hl), aR (fun e he => (hq e he).len), bV hi]
    rw [he] at hci ⊢
    simp only [eE, cU, dA, cP, cE, cV, eR]
    exact aBn hci fun k hk => ih k hk
theorem aJI {es : List (List (aE false))} (hl : es.length ≤ maxLen) (hq : ∀ e ∈ es, kO e) (hd : ∀ e ∈ es, ∀ n : Int, 0 ≤ n → Dn F.aYw [.agg e, aJ n] [] = some (aJ (szL e n), [])) {n : Int} (hn : 0 ≤ n) :
    Dn F.aX5 [vsl es, aJ n] [] = some (aJ (szF (.sl fP es) n), []) := by
  refine aQ ?_
  rw [aLU]
  refine aC5 fun hk => ?_
  have := aJ5 hl hq hd 0 (Nat.zero_le _) _ hk
  simpa using this
theorem aOI {ls : List (aE false)} (h : kO ls) : ∀ {n : Int}, 0 ≤ n → Dn F.aYw [.agg ls, aJ n] [] = some (aJ (szL ls n), []) := by
  cases h with
  | mk s0 i1 s2 e3 e4 h0 h2 h3 q3 h4 q4 =>
    intro n hn
    refine aQ ?_
    rw [aME]
    refine wH fun hn => ?_
    refine aL3 (a := [.int .i64 i1, .str s2, .sl fP e3, .sl fP e4]) (aAU (.mk i1 s2 e3 e4 h2 h3 q3 h4 q4) hn) hn fun k hn => ?_
    rfl
theorem aNy {es : List (List (aE false))} (hl : es.length ≤ maxLen) (hq : ∀ e ∈ es, kO e) {n : Int} (hn : 0 ≤ n) : Dn F.aX5 [vsl es, aJ n] [] = some (aJ (szF (.sl fP es) n), []) := aJI hl hq (fun e he n hn => aOI (hq e he) hn) hn
theorem aKz {es : List (List (aE false))} (hl : es.length ≤ maxLen) (hq : ∀ e ∈ es, gR e) (hd : ∀ e ∈ es, ∀ n : Int, 0 ≤ n → Dn F.aYt [.agg e, aJ n] [] = some (aJ (szL e n), [])) : ∀ i : Nat, i ≤ es.length → ∀ n : Int, 0 ≤ n →
    lY Dn (yD es n i) = some (aJ (szE (es.drop i) n), []) := by
  refine cT ?_ ?_
  · intro n hn; rw [aCg]; simp [szE]
  · intro i hi ih n hn
    have hci := hd _ (List.getElem_mem hi) n hn
    obtain ⟨s0, e1, he, h0, h1, q1⟩ := (hq _ (List.getElem_mem hi)).ex
    rw [aCg, kP hi]
    simp only [Int.ofNat_lt, hi, decide_true, aD, Int.natCast_nonneg, Bool.and_true, Int.toNat_natCast, aG, bA (Nat.lt_of_lt_of_le hi hl), aR (fun e he => (hq e he).len), bV hi]
    rw [he] at hci ⊢
    simp only [eE, cU, dA, cP, cE, cV, eR]
    exact aBn hci fun k hk => ih k hk
theorem aJO {es : List (List (aE false))} (hl : es.length ≤ maxLen) (hq : ∀ e ∈ es, gR e) (hd : ∀ e ∈ es, ∀ n : Int, 0 ≤ n → Dn F.aYt [.agg e, aJ n] [] = some (aJ (szL e n), [])) {n : Int} (hn : 0 ≤ n) :
    Dn F.aXM [vsl es, aJ n] [] = some (aJ (szF (.sl fP es) n), []) := by
  refine aQ ?_
  rw [aLt]
  refine aC5 fun hk => ?_
  have := aKz hl hq hd 0 (Nat.zero_le _) _ hk
  simpa using this
theorem aOF {ls : List (aE false)} (h : gR ls) : ∀ {n : Int}, 0 ≤ n → Dn F.aYt [.agg ls, aJ n] [] = some (aJ (szL ls n), []) := by
  cases h with
  | mk s0 e1 h0 h1 q1 =>
    intro n hn
    refine aQ ?_
    rw [aNh]
    refine wH fun hn => ?_
    refine lF (aNy h1 q1 hn) fun k hn => ?_
    rfl
theorem yT {es : List (List (aE false))} (hl : es.length ≤ maxLen) (hq : ∀ e ∈ es, gR e) {n : Int} (hn : 0 ≤ n) : Dn F.aXM [vsl es, aJ n] [] = some (aJ (szF (.sl fP es) n), []) := aJO hl hq (fun e he n hn => aOF (hq e he) hn) hn
theorem aHV {es : List (List (aE false))} (hl : es.length ≤ maxLen) (hq : ∀ e ∈ es, dH e) (hd : ∀ e ∈ es, ∀ n : Int, 0 ≤ n → Dn F.aXz [.agg e, aJ n] [] = some (aJ (szL e n), [])) : ∀ i : Nat, i ≤ es.length → ∀ n : Int, 0 ≤ n →
    jP Dn (uB es n i) = some (aJ (szE (es.drop i) n), []) := by
  refine cT ?_ ?_
  · intro n hn; rw [aAW]; simp [szE]
  · intro i hi ih n hn
    have hci := hd _ (List.getElem_mem hi) n hn
    obtain ⟨s0, s1, s2, s3, b4, i5, s6, e7, e8, e9, he, h0, h1, h2, h3, h6, h7, q7, h8, q8, h9, q9⟩ := (hq _ (List.getElem_mem hi)).ex
    rw [aAW, kP hi]
    simp only [Int.ofNat_lt, hi, decide_true, aD, Int.natCast_nonneg, Bool.and_true, Int.toNat_natCast, aG, bA (Nat.lt_of_lt_of_le hi hl), aR (fun e he => (hq e he).len), bV hi]
    rw [he] at hci ⊢
    simp only [eE, cU, dA, cP, cE, cV, eR]
    exact aBn hci fun k hk => ih k hk
theorem aHY {es : List (List (aE false))} (hl : es.length ≤ maxLen) (hq : ∀ e ∈ es, dH e) (hd : ∀ e ∈ es, ∀ n : Int, 0 ≤ n → Dn F.aXz [.agg e, aJ n] [] = some (aJ (szL e n), [])) {n : Int} (hn : 0 ≤ n) :
    Dn F.aXj [vsl es, aJ n] [] = some (aJ (szF (.sl fP es) n), []) := by
  refine aQ ?_
  rw [aIj]
  refine aC5 fun hk => ?_
  have := aHV hl hq hd 0 (Nat.zero_le _) _ hk
  simpa using this
theorem aNn {ls : List (aE false)} (h : dH ls) : ∀ {n : Int}, 0 ≤ n → Dn F.aXz [.agg ls, aJ n] [] = some (aJ (szL ls n), []) := by
  cases h with
  | mk s0 s1 s2 s3 b4 i5 s6 e7 e8 e9 h0 h1 h2 h3 h6 h7 q7 h8 q8 h9 q9 =>
    intro n hn
    refine aQ ?_
    rw [aJT]
    refine wH fun hn => ?_
    refine wH fun hn => ?_
    refine aL3 (a := [.str s2, .str s3]) (aGU (.mk s2 s3 h2 h3) hn) hn fun k hn => ?_
    refine aOM hn ?_
    refine aL3 (a := [.int .i64 i5, .str s6, .sl fP e7, .sl fP e8]) (aAU (.mk i5 s6 e7 e8 h6 h7 q7 h8 q8) hn) hn fun k hn => ?_
    refine lF (yT h9 q9 hn) fun k hn => ?_
    rfl
theorem aD7 {es : List (List (aE false))} (hl : es.length ≤ maxLen) (hq : ∀ e ∈ es, dH e) {n : Int} (hn : 0 ≤ n) : Dn F.aXj [vsl es, aJ n] [] = some (aJ (szF (.sl fP es) n), []) := aHY hl hq (fun e he n hn => aNn (hq e he) hn) hn
theorem aEy {es : List (List (aE false))} (hl : es.length ≤ maxLen) (hq : ∀ e ∈ es, cF e) (hd : ∀ e ∈ es, ∀ n : Int, 0 ≤ n → Dn F.aWI [.agg e, aJ n] [] = some (aJ (szL e n), [])) : ∀ i : Nat, i ≤ es.length → ∀ n : Int, 0 ≤ n →
    gJ Dn (pQ es n i) = some (aJ (szE (es.drop i) n), []) := by
  refine cT ?_ ?_
  · intro n hn; rw [xO]; simp [szE]
  · intro i hi ih n hn
    have hci := hd _ (List.getElem_mem hi) n hn
    obtain ⟨s0, s1, e2, s3, s4, e5, he, h0, h1, h2, q2, h3, h4, h5, q5⟩ := (hq _ (List.getElem_mem hi)).ex
    rw [xO, kP hi]
    simp only [Int.ofNat_lt, hi, decide_true, aD, Int.natCast_nonneg, Bool.and_true, Int.toNat_natCast, aG, bA (Nat.lt_of_lt_of_le hi hl), aR (fun e he => (hq e he).len), bV hi]
    rw [he] at hci ⊢
    simp only [eE, cU, dA, cP, cE, cV, eR]
    exact aBn hci fun k hk => ih k hk
theorem aEk {es : List (List (aE false))} (hl : es.length ≤ maxLen) (hq : ∀ e ∈ es, cF e) (hd : ∀ e ∈ es, ∀ n : Int, 0 ≤ n → Dn F.aWI [.agg e, aJ n] [] = some (aJ (szL e n), [])) {n : Int} (hn : 0 ≤ n) :
    Dn F.aWt [vsl es, aJ n] [] = some (aJ (szF (.sl fP es) n), []) := by
  refine aQ ?_
  rw [aFe]
  refine aC5 fun hk => ?_
  have := aEy hl hq hd 0 (Nat.zero_le _) _ hk
  simpa using this
theorem aJe {ls : List (aE false)} (h : cF ls) : ∀ {n : Int}, 0 ≤ n → Dn F.aWI [.agg ls, aJ n] [] = some (aJ (szL ls n), []) := by
  cases h with
  | mk s0 s1 e2 s3 s4 e5 h0 h1 h2 q2 h3 h4 h5 q5 =>
    intro n hn
    refine aQ ?_
    rw [aGh]
    refine wH fun hn => ?_
    refine wH fun hn => ?_
    refine lF (aD7 h2 q2 hn) fun k hn => ?_
    refine aL3 (a := [.str s3, .str s4]) (aGU (.mk s3 s4 h3 h4) hn) hn fun k hn => ?_
    refine lF (yT h5 q5 hn) fun k hn => ?_
    rfl
theorem aH4 {es : List (List (aE false))} (hl : es.length ≤ maxLen) (hq : ∀ e ∈ es, cF e) {n : Int} (hn : 0 ≤ n) : Dn F.aWt [vsl es, aJ n] [] = some (aJ (szF (.sl fP es) n), []) := aEk hl hq (fun e he n hn => aJe (hq e he) hn) hn
theorem aFx {es : List (List (aE false))} (hl : es.length ≤ maxLen) (hq : ∀ e ∈ es, cY e) (hd : ∀ e ∈ es, ∀ n : Int, 0 ≤ n → Dn F.aWQ [.agg e, aJ n] [] = some (aJ (szL e n), [])) : ∀ i : Nat, i ≤ es.length → ∀ n : Int, 0 ≤ n →
    iD Dn (qZ es n i) = some (aJ (szE (es.drop i) n), []) := by
  refine cT ?_ ?_
  · intro n hn; rw [zK]; simp [szE]
  · intro i hi ih n hn
    have hci := hd _ (List.getElem_mem hi) n hn
    obtain ⟨s0, s1, e2, he, h0, h1, h2, q2⟩ := (hq _ (List.getElem_mem hi)).ex
    rw [zK, kP hi]
    simp only [Int.ofNat_lt, hi, decide_true, aD, Int.natCast_nonneg, Bool.and_true, Int.toNat_natCast, aG, bA (Nat.lt_of_lt_of_le hi hl), aR (fun e he => (hq e he).len), bV hi]
    rw [he] at hci ⊢
    simp only [eE, cU, dA, cP, cE, cV, eR]
    exact aBn hci fun k hk => ih k hk
theorem aFZ {es : List (List (aE false))} (hl : es.length ≤ maxLen) (hq : ∀ e ∈ es, cY e) (hd : ∀ e ∈ es, ∀ n : Int, 0 ≤ n → Dn F.aWQ [.agg e, aJ n] [] = some (aJ (szL e n), [])) {n : Int} (hn : 0 ≤ n) :
    Dn F.aWC [vsl es, aJ n] [] = some (aJ (szF (.sl fP es) n), []) := by
  refine aQ ?_
  rw [aGr]
  refine aC5 fun hk => ?_
  have := aFx hl hq hd 0 (Nat.zero_le _) _ hk
  simpa using this
theorem aJD {ls : List (aE false)} (h : cY ls) : ∀ {n : Int}, 0 ≤ n → Dn F.aWQ [.agg ls, aJ n] [] = some (aJ (szL ls n), []) := by
  cases h with
  | mk s0 s1 e2 h0 h1 h2 q2 =>
    intro n hn
    refine aQ ?_
    rw [aHA]
    refine wH fun hn => ?_
    refine wH fun hn => ?_
    refine lF (yT h2 q2 hn) fun k hn => ?_
    rfl
theorem aId {es : List (List (aE false))} (hl : es.length ≤ maxLen) (hq : ∀ e ∈ es, cY e) {n : Int} (hn : 0 ≤ n) : Dn F.aWC [vsl es, aJ n] [] = some (aJ (szF (.sl fP es) n), []) := aFZ hl hq (fun e he n hn => aJD (hq e he) hn) hn
theorem aJq {es : List (List (aE false))} (hl : es.length ≤ maxLen) (hq : ∀ e ∈ es, eX e) (hd : ∀ e ∈ es, ∀ n : Int, 0 ≤ n → Dn F.aX2 [.agg e, aJ n] [] = some (aJ (szL e n), [])) : ∀ i : Nat, i ≤ es.length → ∀ n : Int, 0 ≤ n →
    kD Dn (wB es n i) = some (aJ (szE (es.drop i) n), []) := by
  refine cT ?_ ?_
  · intro n hn; rw [aBH]; simp [szE]
  · intro i hi ih n hn
    have hci := hd _ (List.getElem_mem hi) n hn
    obtain ⟨i0, s1, he, h1⟩ := (hq _ (List.getElem_mem hi)).ex
    rw [aBH, kP hi]
    simp only [Int.ofNat_lt, hi, decide_true, aD, Int.natCast_nonneg, Bool.and_true, Int.toNat_natCast, aG, bA (Nat.lt_of_lt_of_le hi hl), aR (fun e he => (hq e he).len), bV hi]
    rw [he] at hci ⊢
    simp only [eE, cU, dA, cP, cE, cV, eR]
    exact aBn hci fun k hk => ih k hk
theorem aIH {es : List (List (aE false))} (hl : es.length ≤ maxLen) (hq : ∀ e ∈ es, eX e) (hd : ∀ e ∈ es, ∀ n : Int, 0 ≤ n → Dn F.aX2 [.agg e, aJ n] [] = some (aJ (szL e n), [])) {n : Int} (hn : 0 ≤ n) :
    Dn F.aXt [vsl es, aJ n] [] = some (aJ (szF (.sl fP es) n), []) := by
  refine aQ ?_
  rw [aKP]
  refine aC5 fun hk => ?_
  have := aJq hl hq hd 0 (Nat.zero_le _) _ hk
  simpa using this
theorem aNw {ls : List (aE false)} (h : eX ls) : ∀ {n : Int}, 0 ≤ n → Dn F.aX2 [.agg ls, aJ n] [] = some (aJ (szL ls n), []) := by
  cases h with
  | mk i0 s1 h1 =>
    intro n hn
    refine aQ ?_
    rw [aLF]
    refine aQD hn ?_
    refine wH fun hn => ?_
    rfl
theorem aFh {es : List (List (aE false))} (hl : es.length ≤ maxLen) (hq : ∀ e ∈ es, eX e) {n : Int} (hn : 0 ≤ n) : Dn F.aXt [vsl es, aJ n] [] = some (aJ (szF (.sl fP es) n), []) := aIH hl hq (fun e he n hn => aNw (hq e he) hn) hn
theorem aKM {es : List (List (aE false))} (hl : es.length ≤ maxLen) (hq : ∀ e ∈ es, dM e) (hd : ∀ e ∈ es, ∀ n : Int, 0 ≤ n → Dn F.aYk [.agg e, aJ n] [] = some (aJ (szL e n), [])) : ∀ i : Nat, i ≤ es.length → ∀ n : Int, 0 ≤ n →
    lV Dn (yG es n i) = some (aJ (szE (es.drop i) n), []) := by
  refine cT ?_ ?_
  · intro n hn; rw [aCy]; simp [szE]
  · intro i hi ih n hn
    have hci := hd _ (List.getElem_mem hi) n hn
    obtain ⟨i0, b1, s2, s3, e4, e5, e6, e7, e8, b9, e10, he, h2, h3, h4, q4, h5, q5, h6, q6, h7, q7, h8, q8, h10, q10⟩ := (hq _ (List.getElem_mem hi)).ex
    rw [aCy, kP hi]
    simp only [Int.ofNat_lt, hi, decide_true, aD, Int.natCast_nonneg, Bool.and_true, Int.toNat_natCast, aG, bA (Nat.lt_of_lt_of_le hi hl), aR (fun e he => (hq e he).len), bV hi]
    rw [he] at hci ⊢
    simp only [eE, cU, dA, cP, cE, cV, eR]
    exact aBn hci fun k hk => ih k hk
theorem aKr {es : List (List (aE false))} (hl : es.length ≤ maxLen) (hq : ∀ e ∈ es, dM e) (hd : ∀ e ∈ es, ∀ n : Int, 0 ≤ n → Dn F.aYk [.agg e, aJ n] [] = some (aJ (szL e n), [])) {n : Int} (hn : 0 ≤ n) :
    Dn F.aYa [vsl es, aJ n] [] = some (aJ (szF (.sl fP es) n), []) := by
  refine aQ ?_
  rw [aLH]
  refine aC5 fun hk => ?_
  have := aKM hl hq hd 0 (Nat.zero_le _) _ hk
  simpa using this
theorem aIt {ls : List (aE false)} (h : dM ls) : ∀ {n : Int}, 0 ≤ n → Dn F.aYk [.agg ls, aJ n] [] = some (aJ (szL ls n), []) := by
  cases h with
  | mk i0 b1 s2 s3 e4 e5 e6 e7 e8 b9 e10 h2 h3 h4 q4 h5 q5 h6 q6 h7 q7 h8 q8 h10 q10 =>
    intro n hn
    refine aQ ?_
    rw [aMh]
    refine aQD hn ?_
    refine aOM hn ?_
    refine wH fun hn => ?_
    refine wH fun hn => ?_
    refine lF (aCD h4 q4 hn) fun k hn => ?_
    refine lF (aH4 h5 q5 hn) fun k hn => ?_
    refine lF (aD7 h6 q6 hn) fun k hn => ?_
    refine lF (aId h7 q7 hn) fun k hn => ?_
    refine lF (aFh h8 q8 hn) fun k hn => ?_
    refine aOM hn ?_
    refine lF (yT h10 q10 hn) fun k hn => ?_
    rfl
theorem aGV {es : List (List (aE false))} (hl : es.length ≤ maxLen) (hq : ∀ e ∈ es, dM e) {n : Int} (hn : 0 ≤ n) : Dn F.aYa [vsl es, aJ n] [] = some (aJ (szF (.sl fP es) n), []) := aKr hl hq (fun e he n hn => aIt (hq e he) hn) hn
theorem aLI {ls : List (aE false)} (h : bQ ls) : ∀ {n : Int}, 0 ≤ n → Dn F.aXc [.agg ls, aJ n] [] = some (aJ (szL ls n), []) := by
  cases h with
  | mk e0 e1 e2 h0 q0 h1 q1 h2 q2 =>
    intro n hn
    refine aQ ?_
    rw [aIr]
    refine lF (aGV h0 q0 hn) fun k hn => ?_
    refine lF (aGV h1 q1 hn) fun k hn => ?_
    refine lF (aFh h2 q2 hn) fun k hn => ?_
    rfl
end Go.Vs
end
section
open Go Go.Vs Go.Proofs
set_option linter.unusedVariables false
set_option linter.unusedSimpArgs false
namespace Go.Vs
theorem aGj {es : List (List (aE false))} (hl : es.length ≤ maxLen) (hq : ∀ e ∈ es, kZ e) : ∀ i : Nat, i ≤ es.length →
    iR Dn (sA es es i) = some (aI true, []) := by
  refine cT ?_ ?_
  · rw [aAq]; simp
  · intro i hi ih
    obtain ⟨s, he, hs⟩ := hq _ (List.getElem_mem hi)
    rw [aAq]
    simp only [Int.ofNat_lt, hi, decide_true, aD, Int.natCast_nonneg, Bool.and_true, Int.toNat_natCast, aG, bA (Nat.lt_of_lt_of_le hi hl), aR (fun e he => (hq e he).len), bV hi]
    rw [he]
    simp only [cU, cE, beq_self_eq_true, Bool.not_true, aC]
    exact ih
theorem aCA {es : List (List (aE false))} (hl : es.length ≤ maxLen) (hq : ∀ e ∈ es, kZ e) : Dn F.aWV [vsl es, vsl es] [] = some (aI true, []) := by
  refine aQ ?_
  rw [aHc]
  have := aGj hl hq 0 (Nat.zero_le _)
  simpa using this
theorem aGL {ls : List (aE false)} (h : nV ls) : Dn F.aYe [.agg ls, .agg ls] [] = some (aI true, []) := by
  cases h with
  | mk s0 s1 h0 h1 =>
    refine aQ ?_
    rw [aLw]
    simp []
theorem aHe {es : List (List (aE false))} (hl : es.length ≤ maxLen) (hq : ∀ e ∈ es, cZ e) (hd : ∀ e ∈ es, Dn F.aXx [.agg e, .agg e] [] = some (aI true, [])) : ∀ i : Nat, i ≤ es.length →
    jO Dn (uC es es i) = some (aI true, []) := by
  refine cT ?_ ?_
  · rw [aAQ]; simp
  · intro i hi ih
    have hci := hd _ (List.getElem_mem hi)
    obtain ⟨i0, s1, e2, e3, he, h1, h2, q2, h3, q3⟩ := (hq _ (List.getElem_mem hi)).ex
    rw [aAQ]
    simp only [Int.ofNat_lt, hi, decide_true, aD, Int.natCast_nonneg, Bool.and_true, Int.toNat_natCast, aG, bA (Nat.lt_of_lt_of_le hi hl), aR (fun e he => (hq e he).len), bV hi]
    rw [he] at hci ⊢
    simp only [eE, cU, dA, cP, cE, cV, eR, hci, Option.bind_some, bH, Bool.not_true, aC]
    exact ih
theorem aAO {es : List (List (aE false))} (hl : es.length ≤ maxLen) (hq : ∀ e ∈ es, cZ e) (hd : ∀ e ∈ es, Dn F.aXx [.agg e, .agg e] [] = some (aI true, [])) : Dn F.aXi [vsl es, vsl es] [] = some (aI true, []) := by
  refine aQ ?_
  rw [aJd]
  have := aHe hl hq hd 0 (Nat.zero_le _)
  simpa using this
theorem aBc {ls : List (aE false)} (h : cZ ls) : Dn F.aXx [.agg ls, .agg ls] [] = some (aI true, []) := by
  induction h with
  | mk i0 s1 e2 e3 h1 h2 q2 h3 q3 ih2 =>
    refine aQ ?_
    rw [aKC]
    have c2 := aAO h2 q2 ih2
    have c3 := aCA h3 q3
    simp [c2, c3]
theorem aSH {es : List (List (aE false))} (hl : es.length ≤ maxLen) (hq : ∀ e ∈ es, cZ e) : Dn F.aXi [vsl es, vsl es] [] = some (aI true, []) := aAO hl hq fun e he => aBc (hq e he)
theorem aKh {es : List (List (aE false))} (hl : es.length ≤ maxLen) (hq : ∀ e ∈ es, kO e) (hd : ∀ e ∈ es, Dn F.aYv [.agg e, .agg e] [] = some (aI true, [])) : ∀ i : Nat, i ≤ es.length →
    lT Dn (yI es es i) = some (aI true, []) := by
  refine cT ?_ ?_
  · rw [aCG]; simp
  · intro i hi ih
    have hci := hd _ (List.getElem_mem hi)
    obtain ⟨s0, i1, s2, e3, e4, he, h0, h2, h3, q3, h4, q4⟩ := (hq _ (List.getElem_mem hi)).ex
    rw [aCG]
    simp only [Int.ofNat_lt, hi, decide_true, aD, Int.natCast_nonneg, Bool.and_true, Int.toNat_natCast, aG, bA (Nat.lt_of_lt_of_le hi hl), aR (fun e he => (hq e he).len), bV hi]
    rw [he] at hci ⊢
    simp only [eE, cU, dA, cP, cE, cV, eR, hci, Option.bind_some, bH, Bool.not_true, aC]
    exact ih
theorem aJY {es : List (List (aE false))} (hl : es.length ≤ maxLen) (hq : ∀ e ∈ es, kO e) (hd : ∀ e ∈ es, Dn F.aYv [.agg e, .agg e] [] = some (aI true, [])) : Dn F.aXW [vsl es, vsl es] [] = some (aI true, []) := by
  refine aQ ?_
  rw [aLx]
  have := aKh hl hq hd 0 (Nat.zero_le _)
  simpa using this
theorem aO4 {ls : List (aE false)} (h : kO ls) : Dn F.aYv [.agg ls, .agg ls] [] = some (aI true, []) := by
  cases h with
  | mk s0 i1 s2 e3 e4 h0 h2 h3 q3 h4 q4 =>
    refine aQ ?_
    rw [aM2]
    have c1 := aBc (.mk i1 s2 e3 e4 h2 h3 q3 h4 q4)
    simp [c1]
theorem aNt {es : List (List (aE false))} (hl : es.length ≤ maxLen) (hq : ∀ e ∈ es, kO e) : Dn F.aXW [vsl es, vsl es] [] = some (aI true, []) := aJY hl hq fun e he => aO4 (hq e he)
theorem aKt {es : List (List (aE false))} (hl : es.length ≤ maxLen) (hq : ∀ e ∈ es, gR e) (hd : ∀ e ∈ es, Dn F.aYh [.agg e, .agg e] [] = some (aI true, [])) : ∀ i : Nat, i ≤ es.length →
    lQ Dn (yV es es i) = some (aI true, []) := by
  refine cT ?_ ?_
  · rw [aCh]; simp
  · intro i hi ih
    have hci := hd _ (List.getElem_mem hi)
    obtain ⟨s0, e1, he, h0, h1, q1⟩ := (hq _ (List.getElem_mem hi)).ex
    rw [aCh]
    simp only [Int.ofNat_lt, hi, decide_true, aD, Int.natCast_nonneg, Bool.and_true, Int.toNat_natCast, aG, bA (Nat.lt_of_lt_of_le hi hl), aR (fun e he => (hq e he).len), bV hi]
    rw [he] at hci ⊢
    simp only [eE, cU, dA, cP, cE, cV, eR, hci, Option.bind_some, bH, Bool.not_true, aC]
    exact ih
theorem aKH {es : List (List (aE false))} (hl : es.length ≤ maxLen) (hq : ∀ e ∈ es, gR e) (hd : ∀ e ∈ es, Dn F.aYh [.agg e, .agg e] [] = some (aI true, [])) : Dn F.aX0 [vsl es, vsl es] [] = some (aI true, []) := by
  refine aQ ?_
  rw [aLR]
  have := aKt hl hq hd 0 (Nat.zero_le _)
  simpa using this
theorem aO0 {ls : List (aE false)} (h : gR ls) : Dn F.aYh [.agg ls, .agg ls] [] = some (aI true, []) := by
  cases h with
  | mk s0 e1 h0 h1 q1 =>
    refine aQ ?_
    rw [aMT]
    have c1 := aNt h1 q1
    simp [c1]
theorem yC {es : List (List (aE false))} (hl : es.length ≤ maxLen) (hq : ∀ e ∈ es, gR e) : Dn F.aX0 [vsl es, vsl es] [] = some (aI true, []) := aKH hl hq fun e he => aO0 (hq e he)
theorem aHR {es : List (List (aE false))} (hl : es.length ≤ maxLen) (hq : ∀ e ∈ es, dH e) (hd : ∀ e ∈ es, Dn F.aXC [.agg e, .agg e] [] = some (aI true, [])) : ∀ i : Nat, i ≤ es.length →
    jL Dn (uH es es i) = some (aI true, []) := by
  refine cT ?_ ?_
  · rw [aBm]; simp
  · intro i hi ih
    have hci := hd _ (List.getElem_mem hi)
    obtain ⟨s0, s1, s2, s3, b4, i5, s6, e7, e8, e9, he, h0, h1, h2, h3, h6, h7, q7, h8, q8, h9, q9⟩ := (hq _ (List.getElem_mem hi)).ex
    rw [aBm]
    simp only [Int.ofNat_lt, hi, decide_true, aD, Int.natCast_nonneg, Bool.and_true, Int.toNat_natCast, aG, bA (Nat.lt_of_lt_of_le hi hl), aR (fun e he => (hq e he).len), bV hi]
    rw [he] at hci ⊢
    simp only [eE, cU, dA, cP, cE, cV, eR, hci, Option.bind_some, bH, Bool.not_true, aC]
    exact ih
theorem aHM {es : List (List (aE false))} (hl : es.length ≤ maxLen) (hq : ∀ e ∈ es, dH e) (hd : ∀ e ∈ es, Dn F.aXC [.agg e, .agg e] [] = some (aI true, [])) : Dn F.aXf [vsl es, vsl es] [] = some (aI true, []) := by
  refine aQ ?_
  rw [aJr]
  have := aHR hl hq hd 0 (Nat.zero_le _)
  simpa using this
theorem aL6 {ls : List (aE false)} (h : dH ls) : Dn F.aXC [.agg ls, .agg ls] [] = some (aI true, []) := by
  cases h with
  | mk s0 s1 s2 s3 b4 i5 s6 e7 e8 e9 h0 h1 h2 h3 h6 h7 q7 h8 q8 h9 q9 =>
    refine aQ ?_
    rw [aKk]
    have c2 := aGL (.mk s2 s3 h2 h3)
    have c5 := aBc (.mk i5 s6 e7 e8 h6 h7 q7 h8 q8)
    have c9 := yC h9 q9
    simp [c2, c5, c9]
theorem aD6 {es : List (List (aE false))} (hl : es.length ≤ maxLen) (hq : ∀ e ∈ es, dH e) : Dn F.aXf [vsl es, vsl es] [] = some (aI true, []) := aHM hl hq fun e he => aL6 (hq e he)
theorem aEv {es : List (List (aE false))} (hl : es.length ≤ maxLen) (hq : ∀ e ∈ es, cF e) (hd : ∀ e ∈ es, Dn F.aWH [.agg e, .agg e] [] = some (aI true, [])) : ∀ i : Nat, i ≤ es.length →
    gH Dn (pR es es i) = some (aI true, []) := by
  refine cT ?_ ?_
  · rw [xK]; simp
  · intro i hi ih
    have hci := hd _ (List.getElem_mem hi)
    obtain ⟨s0, s1, e2, s3, s4, e5, he, h0, h1, h2, q2, h3, h4, h5, q5⟩ := (hq _ (List.getElem_mem hi)).ex
    rw [xK]
    simp only [Int.ofNat_lt, hi, decide_true, aD, Int.natCast_nonneg, Bool.and_true, Int.toNat_natCast, aG, bA (Nat.lt_of_lt_of_le hi hl), aR (fun e he => (hq e he).len), bV hi]
    rw [he] at hci ⊢
    simp only [eE, cU, dA, cP, cE, cV, eR, hci, Option.bind_some, bH, Bool.not_true, aC]
    exact ih
theorem aEp {es : List (List (aE false))} (hl : es.length ≤ maxLen) (hq : ∀ e ∈ es, cF e) (hd : ∀ e ∈ es, Dn F.aWH [.agg e, .agg e] [] = some (aI true, [])) : Dn F.aWq [vsl es, vsl es] [] = some (aI true, []) := by
  refine aQ ?_
  rw [aFs]
  have := aEv hl hq hd 0 (Nat.zero_le _)
  simpa using this
theorem aI9 {ls : List (aE false)} (h : cF ls) : Dn F.aWH [.agg ls, .agg ls] [] = some (aI true, []) := by
  cases h with
  | mk s0 s1 e2 s3 s4 e5 h0 h1 h2 q2 h3 h4 h5 q5 =>
    refine aQ ?_
    rw [aGz]
    have c2 := aD6 h2 q2
    have c3 := aGL (.mk s3 s4 h3 h4)
    have c5 := yC h5 q5
    simp [c2, c3, c5]
theorem aHU {es : List (List (aE false))} (hl : es.length ≤ maxLen) (hq : ∀ e ∈ es, cF e) : Dn F.aWq [vsl es, vsl es] [] = some (aI true, []) := aEp hl hq fun e he => aI9 (hq e he)
theorem aE6 {es : List (List (aE false))} (hl : es.length ≤ maxLen) (hq : ∀ e ∈ es, cY e) (hd : ∀ e ∈ es, Dn F.aWZ [.agg e, .agg e] [] = some (aI true, [])) : ∀ i : Nat, i ≤ es.length →
    hY Dn (qM es es i) = some (aI true, []) := by
  refine cT ?_ ?_
  · rw [zI]; simp
  · intro i hi ih
    have hci := hd _ (List.getElem_mem hi)
    obtain ⟨s0, s1, e2, he, h0, h1, h2, q2⟩ := (hq _ (List.getElem_mem hi)).ex
    rw [zI]
    simp only [Int.ofNat_lt, hi, decide_true, aD, Int.natCast_nonneg, Bool.and_true, Int.toNat_natCast, aG, bA (Nat.lt_of_lt_of_le hi hl), aR (fun e he => (hq e he).len), bV hi]
    rw [he] at hci ⊢
    simp only [eE, cU, dA, cP, cE, cV, eR, hci, Option.bind_some, bH, Bool.not_true, aC]
    exact ih
theorem aFA {es : List (List (aE false))} (hl : es.length ≤ maxLen) (hq : ∀ e ∈ es, cY e) (hd : ∀ e ∈ es, Dn F.aWZ [.agg e, .agg e] [] = some (aI true, [])) : Dn F.aWy [vsl es, vsl es] [] = some (aI true, []) := by
  refine aQ ?_
  rw [aGC]
  have := aE6 hl hq hd 0 (Nat.zero_le _)
  simpa using this
theorem aKo {ls : List (aE false)} (h : cY ls) : Dn F.aWZ [.agg ls, .agg ls] [] = some (aI true, []) := by
  cases h with
  | mk s0 s1 e2 h0 h1 h2 q2 =>
    refine aQ ?_
    rw [aHm]
    have c2 := yC h2 q2
    simp [c2]
theorem aIf {es : List (List (aE false))} (hl : es.length ≤ maxLen) (hq : ∀ e ∈ es, cY e) : Dn F.aWy [vsl es, vsl es] [] = some (aI true, []) := aFA hl hq fun e he => aKo (hq e he)
theorem aJz {es : List (List (aE false))} (hl : es.length ≤ maxLen) (hq : ∀ e ∈ es, eX e) (hd : ∀ e ∈ es, Dn F.aXU [.agg e, .agg e] [] = some (aI true, [])) : ∀ i : Nat, i ≤ es.length →
    kG Dn (wM es es i) = some (aI true, []) := by
  refine cT ?_ ?_
  · rw [aBv]; simp
  · intro i hi ih
    have hci := hd _ (List.getElem_mem hi)
    obtain ⟨i0, s1, he, h1⟩ := (hq _ (List.getElem_mem hi)).ex
    rw [aBv]
    simp only [Int.ofNat_lt, hi, decide_true, aD, Int.natCast_nonneg, Bool.and_true, Int.toNat_natCast, aG, bA (Nat.lt_of_lt_of_le hi hl), aR (fun e he => (hq e he).len), bV hi]
    rw [he] at hci ⊢
    simp only [eE, cU, dA, cP, cE, cV, eR, hci, Option.bind_some, bH, Bool.not_true, aC]
    exact ih
theorem aJk {es : List (List (aE false))} (hl : es.length ≤ maxLen) (hq : ∀ e ∈ es, eX e) (hd : ∀ e ∈ es, Dn F.aXU [.agg e, .agg e] [] = some (aI true, [])) : Dn F.aXs [vsl es, vsl es] [] = some (aI true, []) := by
  refine aQ ?_
  rw [aKv]
  have := aJz hl hq hd 0 (Nat.zero_le _)
  simpa using this
theorem aNB {ls : List (aE false)} (h : eX ls) : Dn F.aXU [.agg ls, .agg ls] [] = some (aI true, []) := by
  cases h with
  | mk i0 s1 h1 =>
    refine aQ ?_
    rw [aLC]
    simp []
theorem aEX {es : List (List (aE false))} (hl : es.length ≤ maxLen) (hq : ∀ e ∈ es, eX e) : Dn F.aXs [vsl es, vsl es] [] = some (aI true, []) := aJk hl hq fun e he => aNB (hq e he)
theorem aKj {es : List (List (aE false))} (hl : es.length ≤ maxLen) (hq : ∀ e ∈ es, dM e) (hd : ∀ e ∈ es, Dn F.aYs [.agg e, .agg e] [] = some (aI true, [])) : ∀ i : Nat, i ≤ es.length →
    lX Dn (yP es es i) = some (aI true, []) := by
  refine cT ?_ ?_
  · rw [aCj]; simp
  · intro i hi ih
    have hci := hd _ (List.getElem_mem hi)
    obtain ⟨i0, b1, s2, s3, e4, e5, e6, e7, e8, b9, e10, he, h2, h3, h4, q4, h5, q5, h6, q6, h7, q7, h8, q8, h10, q10⟩ := (hq _ (List.getElem_mem hi)).ex
    rw [aCj]
    simp only [Int.ofNat_lt, hi, decide_true, aD, Int.natCast_nonneg, Bool.and_true, Int.toNat_natCast, aG, bA (Nat.lt_of_lt_of_le hi hl), aR (fun e he => (hq e he).len), bV hi]
    rw [he] at hci ⊢
    simp only [eE, cU, dA, cP, cE, cV, eR, hci, Option.bind_some, bH, Bool.not_true, aC]
    exact ih
theorem aKD {es : List (List (aE false))} (hl : es.length ≤ maxLen) (hq : ∀ e ∈ es, dM e) (hd : ∀ e ∈ es, Dn F.aYs [.agg e, .agg e] [] = some (aI true, [])) : Dn F.aX4 [vsl es, vsl es] [] = some (aI true, []) := by
  refine aQ ?_
  rw [aLm]
  have := aKj hl hq hd 0 (Nat.zero_le _)
  simpa using this
theorem aJf {ls : List (aE false)} (h : dM ls) : Dn F.aYs [.agg ls, .agg ls] [] = some (aI true, []) := by
  cases h with
  | mk i0 b1 s2 s3 e4 e5 e6 e7 e8 b9 e10 h2 h3 h4 q4 h5 q5 h6 q6 h7 q7 h8 q8 h10 q10 =>
    refine aQ ?_
    rw [aL9]
    have c4 := aCA h4 q4
    have c5 := aHU h5 q5
    have c6 := aD6 h6 q6
    have c7 := aIf h7 q7
    have c8 := aEX h8 q8
    have c10 := yC h10 q10
    simp [c4, c5, c6, c7, c8, c10]
theorem aGX {es : List (List (aE false))} (hl : es.length ≤ maxLen) (hq : ∀ e ∈ es, dM e) : Dn F.aX4 [vsl es, vsl es] [] = some (aI true, []) := aKD hl hq fun e he => aJf (hq e he)
theorem aLy {ls : List (aE false)} (h : bQ ls) : Dn F.aXh [.agg ls, .agg ls] [] = some (aI true, []) := by
  cases h with
  | mk e0 e1 e2 h0 q0 h1 q1 h2 q2 =>
    refine aQ ?_
    rw [aJx]
    have c0 := aGX h0 q0
    have c1 := aGX h1 q1
    have c2 := aEX h2 q2
    simp [c0, c1, c2]
theorem aF1 {es : List (List (aE false))} (hl : es.length ≤ maxLen) (hq : ∀ e ∈ es, dP e) (hd : ∀ e ∈ es, Dn F.aWP [.agg e, .agg e] [] = some (aI true, [])) : ∀ i : Nat, i ≤ es.length →
    iA Dn (qW es es i) = some (aI true, []) := by
  refine cT ?_ ?_
  · rw [zT]; simp
  · intro i hi ih
    have hci := hd _ (List.getElem_mem hi)
    obtain ⟨i0, s1, s2, he⟩ := (hq _ (List.getElem_mem hi)).ex
    rw [zT]
    simp only [Int.ofNat_lt, hi, decide_true, aD, Int.natCast_nonneg, Bool.and_true, Int.toNat_natCast, aG, bA (Nat.lt_of_lt_of_le hi hl), aR (fun e he => (hq e he).len), bV hi]
    rw [he] at hci ⊢
    simp only [eE, cU, dA, cP, cE, cV, eR, hci, Option.bind_some, bH, Bool.not_true, aC]
    exact ih
theorem aFX {es : List (List (aE false))} (hl : es.length ≤ maxLen) (hq : ∀ e ∈ es, dP e) (hd : ∀ e ∈ es, Dn F.aWP [.agg e, .agg e] [] = some (aI true, [])) : Dn F.aWA [vsl es, vsl es] [] = some (aI true, []) := by
  refine aQ ?_
  rw [aGn]
  have := aF1 hl hq hd 0 (Nat.zero_le _)
  simpa using this
theorem aJN {ls : List (aE false)} (h : dP ls) : Dn F.aWP [.agg ls, .agg ls] [] = some (aI true, []) := by
  cases h with
  | mk i0 s1 s2 =>
    refine aQ ?_
    rw [aHB]
    simp []
theorem aJy {es : List (List (aE false))} (hl : es.length ≤ maxLen) (hq : ∀ e ∈ es, dP e) : Dn F.aWA [vsl es, vsl es] [] = some (aI true, []) := aFX hl hq fun e he => aJN (hq e he)
end Go.Vs
end
section
open Go Go.Vs Go.Proofs
set_option maxRecDepth 100000
set_option linter.unusedVariables false
namespace Go.Vs
noncomputable section
variable (D : cA true)
def aBM := atA D F.aW4
theorem aGo (c0_0 : Fl true) (e0_0 : LT) (c0_1 : Fl true) (e0_1 : LT) (c0_2 : Fl true) (e0_2 : LT) : aV Tryz.prog D Hs bP F.aW4 [.agg [.sl c0_0 e0_0,.sl c0_1 e0_1,.sl c0_2 e0_2]] [] = (D F.aYc [.leaf (.sl c0_0 e0_0)] []).bind fun r => pY r.fst fun c es => (D F.aYc [.leaf (.sl c0_1 e0_1)] []).bind fun r => pY r.fst fun c_1 es_1 => (D F.aXp [.leaf (.sl c0_2 e0_2)] []).bind fun r => pY r.fst fun c_2 es_2 => some (.agg [.sl c es,.sl c_1 es_1,.sl c_2 es_2],[]) := by refine (aH (J := aBM D) (by kernel_rfl) (fun _ _ => rfl) []).trans ?_; generalize aBM D = J; revert J; refine id ?_; intro J; kernel_rfl
def aFy := atA D F.aYq
theorem aJ1 (i0_0 : Int) (b0_1 : Bool) (s0_2 s0_3 : ByteArray) (c0_4 : Fl true) (e0_4 : LT) (c0_5 : Fl true) (e0_5 : LT) (c0_6 : Fl true) (e0_6 : LT) (c0_7 : Fl true) (e0_7 : LT) (c0_8 : Fl true) (e0_8 : LT) (b0_9 : Bool) (c0_10 : Fl true) (e0_10 : LT) : aV Tryz.prog D Hs bP F.aYq [.agg [.int .i64 i0_0,.bool b0_1,.str s0_2,.str s0_3,.sl c0_4 e0_4,.sl c0_5 e0_5,.sl c0_6 e0_6,.sl c0_7 e0_7,.sl c0_8 e0_8,.bool b0_9,.sl c0_10 e0_10]] [] = (D F.aWT [.leaf (.sl c0_4 e0_4)] []).bind fun r => pY r.fst fun c es => (D F.aWu [.leaf (.sl c0_5 e0_5)] []).bind fun r => pY r.fst fun c_1 es_1 => (D F.aXb [.leaf (.sl c0_6 e0_6)] []).bind fun r => pY r.fst fun c_2 es_2 => (D F.aWB [.leaf (.sl c0_7 e0_7)] []).bind fun r => pY r.fst fun c_3 es_3 => (D F.aXp [.leaf (.sl c0_8 e0_8)] []).bind fun r => pY r.fst fun c_4 es_4 => (D F.aXN [.leaf (.sl c0_10 e0_10)] []).bind fun r => pY r.fst fun c_5 es_5 => some (.agg [.int .i64 i0_0,.bool b0_1,.str s0_2,.str s0_3,.sl c es,.sl c_1 es_1,.sl c_2 es_2,.sl c_3 es_3,.sl c_4 es_4,.bool b0_9,.sl c_5 es_5],[]) := by refine (aH (J := aFy D) (by kernel_rfl) (fun _ _ => rfl) []).trans ?_; generalize aFy D = J; revert J; refine id ?_; intro J; kernel_rfl
def aAt := atA D F.aWw
theorem aEs (c0_0 : Fl true) (e0_0 : LT) (c0_1 : Fl true) (e0_1 : LT) (c0_2 : Fl true) (e0_2 : LT) (i1 : Int) : aV Tryz.prog D Hs bP F.aWw [.agg [.sl c0_0 e0_0,.sl c0_1 e0_1,.sl c0_2 e0_2],.leaf (.int .i64 i1)] [] = (D F.aXl [.leaf (.sl c0_0 e0_0),.leaf (.int .i64 i1)] []).bind fun r => aP r.fst fun l => dQ .i64 l fun n => (D F.aXl [.leaf (.sl c0_1 e0_1),.leaf (.int .i64 n)] []).bind fun r => aP r.fst fun l => dQ .i64 l fun n => (D F.aWY [.leaf (.sl c0_2 e0_2),.leaf (.int .i64 n)] []).bind fun r => aP r.fst fun l => dQ .i64 l fun n => some (.leaf (.int .i64 n),[]) := by refine (aH (J := aAt D) (by kernel_rfl) (fun _ _ => rfl) []).trans ?_; generalize aAt D = J; revert J; refine id ?_; intro J; kernel_rfl
def aCK := atA D F.aXw
theorem aHv (i0_0 : Int) (b0_1 : Bool) (s0_2 s0_3 : ByteArray) (c0_4 : Fl true) (e0_4 : LT) (c0_5 : Fl true) (e0_5 : LT) (c0_6 : Fl true) (e0_6 : LT) (c0_7 : Fl true) (e0_7 : LT) (c0_8 : Fl true) (e0_8 : LT) (b0_9 : Bool) (c0_10 : Fl true) (e0_10 : LT) (i1 : Int) : aV Tryz.prog D Hs bP F.aXw [.agg [.int .i64 i0_0,.bool b0_1,.str s0_2,.str s0_3,.sl c0_4 e0_4,.sl c0_5 e0_5,.sl c0_6 e0_6,.sl c0_7 e0_7,.sl c0_8 e0_8,.bool b0_9,.sl c0_10 e0_10],.leaf (.int .i64 i1)] [] = (D F.aWp [.leaf (.sl c0_4 e0_4),.leaf (.int .i64 i1)] []).bind fun r => aP r.fst fun l => dQ .i64 l fun n => (D F.aWc [.leaf (.sl c0_5 e0_5),.leaf (.int .i64 n)] []).bind fun r => aP r.fst fun l => dQ .i64 l fun n => (D F.aWE [.leaf (.sl c0_6 e0_6),.leaf (.int .i64 n)] []).bind fun r => aP r.fst fun l => dQ .i64 l fun n => (D F.aWj [.leaf (.sl c0_7 e0_7),.leaf (.int .i64 n)] []).bind fun r => aP r.fst fun l => dQ .i64 l fun n => (D F.aWY [.leaf (.sl c0_8 e0_8),.leaf (.int .i64 n)] []).bind fun r => aP r.fst fun l => dQ .i64 l fun n => (D F.aW9 [.leaf (.sl c0_10 e0_10),.leaf (.int .i64 n)] []).bind fun r => aP r.fst fun l => dQ .i64 l fun n => some (.leaf (.int .i64 n),[]) := by refine (aH (J := aCK D) (by kernel_rfl) (fun _ _ => rfl) []).trans ?_; generalize aCK D = J; revert J; refine id ?_; intro J; kernel_rfl
section
variable (c0 : Fl true) (e0 : LT) (n3 : Nat) (i4 : Int) (vx7 : List (SV true))
def jM := atA D F.aYc
def tK : PT := ([1,1,0,1,0],St.mk ([.leaf (.sl c0 e0),.any,.any,.bsl 7 11 0 n3,.leaf (.int .i64 i4)] ++ bG 18) (noB 7 ++ [some vx7] ++ noB 15))
theorem aAL : jM D (tK c0 e0 n3 i4 vx7) = aB (decide (i4 < (↑e0.length : Int))) (aA (decide (0 ≤ i4) && decide (i4 < (↑e0.length : Int)) && sized 11 e0) (iI (e0.getD i4.toNat []) fun e => atK e 0 fun l => dQ .i64 l fun n => atK e 1 fun l => dV l fun b => atK e 2 fun l => cO l fun s => atK e 3 fun l => cO l fun s_1 => atK e 4 fun l => slK l fun c es => atK e 5 fun l => slK l fun c_1 es_1 => atK e 6 fun l => slK l fun c_2 es_2 => atK e 7 fun l => slK l fun c_3 es_3 => atK e 8 fun l => slK l fun c_4 es_4 => atK e 9 fun l => dV l fun b_1 => atK e 10 fun l => slK l fun c_5 es_5 => (D F.aYq [.agg [.int .i64 n,.bool b,.str s,.str s_1,.sl c es,.sl c_1 es_1,.sl c_2 es_2,.sl c_3 es_3,.sl c_4 es_4,.bool b_1,.sl c_5 es_5]] []).bind fun r => eV r.fst fun cs => aA (cs.length == 11) (atK cs 0 fun l => dQ .i64 l fun n => atK cs 1 fun l => dV l fun b => atK cs 2 fun l => cO l fun s => atK cs 3 fun l => cO l fun s_2 => atK cs 4 fun l => slK l fun c es => atK cs 5 fun l => slK l fun c_6 es_6 => atK cs 6 fun l => slK l fun c_7 es_7 => atK cs 7 fun l => slK l fun c_8 es_8 => atK cs 8 fun l => slK l fun c_9 es_9 => atK cs 9 fun l => dV l fun b_2 => atK cs 10 fun l => slK l fun c_10 es_10 => aA (decide (0 ≤ i4) && decide (i4 < (↑n3 : Int))) (aA (decide ((0 + i4.toNat) * 11 + 11 ≤ vx7.length)) (jM D (tK c0 e0 n3 (IntKind.i64.wrap (i4 + 1)) (kW vx7 ((0 + i4.toNat) * 11) [.leaf (.int .i64 n),.leaf (.bool b),.leaf (.str s),.leaf (.str s_2),.leaf (.sl c es),.leaf (.sl c_6 es_6),.leaf (.sl c_7 es_7),.leaf (.sl c_8 es_8),.leaf (.sl c_9 es_9),.leaf (.bool b_2),.leaf (.sl c_10 es_10)]))))))) ((if n3 * 11 ≤ vx7.length ∧ 0 < 11 then match dT (List.take (n3 * 11) vx7) with | some x => some ((fun l => .leaf (.sl (Fl.new true) (pB 11 n3 l))) x) | none => none else none).bind fun v => aA v.flatT (some (v,[]))) := by refine (aL (J := jM D) (fun _ _ => rfl) [[1,1,0,1,0]] _).trans ?_; generalize jM D = J; revert J; refine id ?_; intro J; kernel_rfl
theorem aIh : aV Tryz.prog D Hs bP F.aYc [.leaf (.sl c0 e0)] [] = aA ((↑e0.length : Int) == (↑e0.length : Int) && decide ((↑e0.length : Int).toNat * 200 ≤ aO) && decide ((↑e0.length : Int).toNat ≤ aO)) (jM D (tK c0 e0 (decide (0 ≤ (↑e0.length : Int)) && (↑e0.length : Int) == (↑e0.length : Int) && decide ((↑e0.length : Int).toNat * Tryz.prog.types[71].bytes ≤ aO) && decide ((↑e0.length : Int).toNat ≤ aO),(Tryz.prog.types[71].size,(↑e0.length : Int).toNat),List.map SV.leaf (List.replicate (↑e0.length : Int).toNat ((fun (x : List (aE true)) => .int .i64 0 :: x) ((fun (x : List (aE true)) => .bool false :: x) ((fun (x : List (aE true)) => .str (ByteArray.mk #[]) :: x) ((fun (x : List (aE true)) => .str (ByteArray.mk #[]) :: x) ((fun (x : List (aE true)) => .sl (Fl.new true) [] :: x) ((fun (x : List (aE true)) => .sl (Fl.new true) [] :: x) ((fun (x : List (aE true)) => .sl (Fl.new true) [] :: x) ((fun (x : List (aE true)) => .sl (Fl.new true) [] :: x) ((fun (x : List (aE true)) => .sl (Fl.new true) [] :: x) ((fun (x : List (aE true)) => .bool false :: x) ((fun (x : List (aE true)) => .sl (Fl.new true) [] :: x) [])))))))))))).flatten).snd.fst.snd 0 (decide (0 ≤ (↑e0.length : Int)) && (↑e0.length : Int) == (↑e0.length : Int) && decide ((↑e0.length : Int).toNat * Tryz.prog.types[71].bytes ≤ aO) && decide ((↑e0.length : Int).toNat ≤ aO),(Tryz.prog.types[71].size,(↑e0.length : Int).toNat),List.map SV.leaf (List.replicate (↑e0.length : Int).toNat ((fun (x : List (aE true)) => .int .i64 0 :: x) ((fun (x : List (aE true)) => .bool false :: x) ((fun (x : List (aE true)) => .str (ByteArray.mk #[]) :: x) ((fun (x : List (aE true)) => .str (ByteArray.mk #[]) :: x) ((fun (x : List (aE true)) => .sl (Fl.new true) [] :: x) ((fun (x : List (aE true)) => .sl (Fl.new true) [] :: x) ((fun (x : List (aE true)) => .sl (Fl.new true) [] :: x) ((fun (x : List (aE true)) => .sl (Fl.new true) [] :: x) ((fun (x : List (aE true)) => .sl (Fl.new true) [] :: x) ((fun (x : List (aE true)) => .bool false :: x) ((fun (x : List (aE true)) => .sl (Fl.new true) [] :: x) [])))))))))))).flatten).snd.snd)) := by refine (aH (J := jM D) (by kernel_rfl) (fun _ _ => rfl) [[1,1,0,1,0]]).trans ?_; generalize jM D = J; revert J; refine id ?_; intro J; kernel_rfl
end
section
variable (c0 : Fl true) (e0 : LT) (n3 : Nat) (i4 : Int) (vx7 : List (SV true))
def iS := atA D F.aXp
def rX : PT := ([1,1,0,1,0],St.mk ([.leaf (.sl c0 e0),.any,.any,.bsl 7 2 0 n3,.leaf (.int .i64 i4)] ++ bG 18) (noB 7 ++ [some vx7] ++ noB 15))
theorem aAn : iS D (rX c0 e0 n3 i4 vx7) = aB (decide (i4 < (↑e0.length : Int))) (aA (decide (0 ≤ i4) && decide (i4 < (↑e0.length : Int)) && sized 2 e0) (iI (e0.getD i4.toNat []) fun e => atK e 0 fun l => dQ .i64 l fun n => atK e 1 fun l => cO l fun s => (D F.aXR [.agg [.int .i64 n,.str s]] []).bind fun r => eV r.fst fun cs => aA (cs.length == 2) (atK cs 0 fun l => dQ .i64 l fun n => atK cs 1 fun l => cO l fun s => aA (decide (0 ≤ i4) && decide (i4 < (↑n3 : Int))) (aA (decide ((0 + i4.toNat) * 2 + 2 ≤ vx7.length)) (iS D (rX c0 e0 n3 (IntKind.i64.wrap (i4 + 1)) (kW vx7 ((0 + i4.toNat) * 2) [.leaf (.int .i64 n),.leaf (.str s)]))))))) ((if n3 * 2 ≤ vx7.length ∧ 0 < 2 then match dT (List.take (n3 * 2) vx7) with | some x => some ((fun l => .leaf (.sl (Fl.new true) (pB 2 n3 l))) x) | none => none else none).bind fun v => aA v.flatT (some (v,[]))) := by refine (aL (J := iS D) (fun _ _ => rfl) [[1,1,0,1,0]] _).trans ?_; generalize iS D = J; revert J; refine id ?_; intro J; kernel_rfl
theorem aHX : aV Tryz.prog D Hs bP F.aXp [.leaf (.sl c0 e0)] [] = aA ((↑e0.length : Int) == (↑e0.length : Int) && decide ((↑e0.length : Int).toNat * 24 ≤ aO) && decide ((↑e0.length : Int).toNat ≤ aO)) (iS D (rX c0 e0 (decide (0 ≤ (↑e0.length : Int)) && (↑e0.length : Int) == (↑e0.length : Int) && decide ((↑e0.length : Int).toNat * Tryz.prog.types[185].bytes ≤ aO) && decide ((↑e0.length : Int).toNat ≤ aO),(Tryz.prog.types[185].size,(↑e0.length : Int).toNat),List.map SV.leaf (List.replicate (↑e0.length : Int).toNat ((fun (x : List (aE true)) => .int .i64 0 :: x) ((fun (x : List (aE true)) => .str (ByteArray.mk #[]) :: x) []))).flatten).snd.fst.snd 0 (decide (0 ≤ (↑e0.length : Int)) && (↑e0.length : Int) == (↑e0.length : Int) && decide ((↑e0.length : Int).toNat * Tryz.prog.types[185].bytes ≤ aO) && decide ((↑e0.length : Int).toNat ≤ aO),(Tryz.prog.types[185].size,(↑e0.length : Int).toNat),List.map SV.leaf (List.replicate (↑e0.length : Int).toNat ((fun (x : List (aE true)) => .int .i64 0 :: x) ((fun (x : List (aE true)) => .str (ByteArray.mk #[]) :: x) []))).flatten).snd.snd)) := by refine (aH (J := iS D) (by kernel_rfl) (fun _ _ => rfl) [[1,1,0,1,0]]).trans ?_; generalize iS D = J; revert J; refine id ?_; intro J; kernel_rfl
end
section
variable (c0 : Fl true) (e0 : LT) (n3 : Nat) (i4 : Int) (vx7 : List (SV true))
def gL := atA D F.aWT
def pP : PT := ([1,1,0,1,0],St.mk ([.leaf (.sl c0 e0),.any,.any,.bsl 7 1 0 n3,.leaf (.int .i64 i4)] ++ bG 17) (noB 7 ++ [some vx7] ++ noB 14))
theorem xN : gL D (pP c0 e0 n3 i4 vx7) = aB (decide (i4 < (↑e0.length : Int))) (aA (decide (0 ≤ i4) && decide (i4 < (↑e0.length : Int)) && sized 1 e0) (atK (e0.getD i4.toNat []) 0 fun l => cO l fun s => aA (decide (0 ≤ i4) && decide (i4 < (↑n3 : Int))) (aA (decide ((0 + i4.toNat) * 1 + 1 ≤ vx7.length)) (gL D (pP c0 e0 n3 (IntKind.i64.wrap (i4 + 1)) (kW vx7 ((0 + i4.toNat) * 1) [.leaf (.str s)])))))) ((if n3 * 1 ≤ vx7.length ∧ 0 < 1 then match dT (List.take (n3 * 1) vx7) with | some x => some ((fun l => .leaf (.sl (Fl.new true) (pB 1 n3 l))) x) | none => none else none).bind fun v => aA v.flatT (some (v,[]))) := by refine (aL (J := gL D) (fun _ _ => rfl) [[1,1,0,1,0]] _).trans ?_; generalize gL D = J; revert J; refine id ?_; intro J; kernel_rfl
theorem aEU : aV Tryz.prog D Hs bP F.aWT [.leaf (.sl c0 e0)] [] = aA ((↑e0.length : Int) == (↑e0.length : Int) && decide ((↑e0.length : Int).toNat * 16 ≤ aO) && decide ((↑e0.length : Int).toNat ≤ aO)) (gL D (pP c0 e0 (decide (0 ≤ (↑e0.length : Int)) && (↑e0.length : Int) == (↑e0.length : Int) && decide ((↑e0.length : Int).toNat * Tryz.prog.types[9].bytes ≤ aO) && decide ((↑e0.length : Int).toNat ≤ aO),(Tryz.prog.types[9].size,(↑e0.length : Int).toNat),List.map SV.leaf (List.replicate (↑e0.length : Int).toNat ((fun (x : List (aE true)) => .str (ByteArray.mk #[]) :: x) [])).flatten).snd.fst.snd 0 (decide (0 ≤ (↑e0.length : Int)) && (↑e0.length : Int) == (↑e0.length : Int) && decide ((↑e0.length : Int).toNat * Tryz.prog.types[9].bytes ≤ aO) && decide ((↑e0.length : Int).toNat ≤ aO),(Tryz.prog.types[9].size,(↑e0.length : Int).toNat),List.map SV.leaf (List.replicate (↑e0.length : Int).toNat ((fun (x : List (aE true)) => .str (ByteArray.mk #[]) :: x) [])).flatten).snd.snd)) := by refine (aH (J := gL D) (by kernel_rfl) (fun _ _ => rfl) [[1,1,0,1,0]]).trans ?_; generalize gL D = J; revert J; refine id ?_; intro J; kernel_rfl
end
section
variable (c0 : Fl true) (e0 : LT) (n3 : Nat) (i4 : Int) (vx7 : List (SV true))
def eY := atA D F.aWu
def nF : PT := ([1,1,0,1,0],St.mk ([.leaf (.sl c0 e0),.any,.any,.bsl 7 6 0 n3,.leaf (.int .i64 i4)] ++ bG 18) (noB 7 ++ [some vx7] ++ noB 15))
theorem uV : eY D (nF c0 e0 n3 i4 vx7) = aB (decide (i4 < (↑e0.length : Int))) (aA (decide (0 ≤ i4) && decide (i4 < (↑e0.length : Int)) && sized 6 e0) (iI (e0.getD i4.toNat []) fun e => atK e 0 fun l => cO l fun s => atK e 1 fun l => cO l fun s_1 => atK e 2 fun l => slK l fun c es => atK e 3 fun l => cO l fun s_2 => atK e 4 fun l => cO l fun s_3 => atK e 5 fun l => slK l fun c_1 es_1 => (D F.aWx [.agg [.str s,.str s_1,.sl c es,.str s_2,.str s_3,.sl c_1 es_1]] []).bind fun r => eV r.fst fun cs => aA (cs.length == 6) (atK cs 0 fun l => cO l fun s => atK cs 1 fun l => cO l fun s_4 => atK cs 2 fun l => slK l fun c es => atK cs 3 fun l => cO l fun s_5 => atK cs 4 fun l => cO l fun s_6 => atK cs 5 fun l => slK l fun c_2 es_2 => aA (decide (0 ≤ i4) && decide (i4 < (↑n3 : Int))) (aA (decide ((0 + i4.toNat) * 6 + 6 ≤ vx7.length)) (eY D (nF c0 e0 n3 (IntKind.i64.wrap (i4 + 1)) (kW vx7 ((0 + i4.toNat) * 6) [.leaf (.str s),.leaf (.str s_4),.leaf (.sl c es),.leaf (.str s_5),.leaf (.str s_6),.leaf (.sl c_2 es_2)]))))))) ((if n3 * 6 ≤ vx7.length ∧ 0 < 6 then match dT (List.take (n3 * 6) vx7) with | some x => some ((fun l => .leaf (.sl (Fl.new true) (pB 6 n3 l))) x) | none => none else none).bind fun v => aA v.flatT (some (v,[]))) := by refine (aL (J := eY D) (fun _ _ => rfl) [[1,1,0,1,0]] _).trans ?_; generalize eY D = J; revert J; refine id ?_; intro J; kernel_rfl
theorem aDA : aV Tryz.prog D Hs bP F.aWu [.leaf (.sl c0 e0)] [] = aA ((↑e0.length : Int) == (↑e0.length : Int) && decide ((↑e0.length : Int).toNat * 112 ≤ aO) && decide ((↑e0.length : Int).toNat ≤ aO)) (eY D (nF c0 e0 (decide (0 ≤ (↑e0.length : Int)) && (↑e0.length : Int) == (↑e0.length : Int) && decide ((↑e0.length : Int).toNat * Tryz.prog.types[176].bytes ≤ aO) && decide ((↑e0.length : Int).toNat ≤ aO),(Tryz.prog.types[176].size,(↑e0.length : Int).toNat),List.map SV.leaf (List.replicate (↑e0.length : Int).toNat ((fun (x : List (aE true)) => .str (ByteArray.mk #[]) :: x) ((fun (x : List (aE true)) => .str (ByteArray.mk #[]) :: x) ((fun (x : List (aE true)) => .sl (Fl.new true) [] :: x) ((fun (x : List (aE true)) => .str (ByteArray.mk #[]) :: x) ((fun (x : List (aE true)) => .str (ByteArray.mk #[]) :: x) ((fun (x : List (aE true)) => .sl (Fl.new true) [] :: x) []))))))).flatten).snd.fst.snd 0 (decide (0 ≤ (↑e0.length : Int)) && (↑e0.length : Int) == (↑e0.length : Int) && decide ((↑e0.length : Int).toNat * Tryz.prog.types[176].bytes ≤ aO) && decide ((↑e0.length : Int).toNat ≤ aO),(Tryz.prog.types[176].size,(↑e0.length : Int).toNat),List.map SV.leaf (List.replicate (↑e0.length : Int).toNat ((fun (x : List (aE true)) => .str (ByteArray.mk #[]) :: x) ((fun (x : List (aE true)) => .str (ByteArray.mk #[]) :: x) ((fun (x : List (aE true)) => .sl (Fl.new true) [] :: x) ((fun (x : List (aE true)) => .str (ByteArray.mk #[]) :: x) ((fun (x : List (aE true)) => .str (ByteArray.mk #[]) :: x) ((fun (x : List (aE true)) => .sl (Fl.new true) [] :: x) []))))))).flatten).snd.snd)) := by refine (aH (J := eY D) (by kernel_rfl) (fun _ _ => rfl) [[1,1,0,1,0]]).trans ?_; generalize eY D = J; revert J; refine id ?_; intro J; kernel_rfl
end
section
variable (c0 : Fl true) (e0 : LT) (n3 : Nat) (i4 : Int) (vx7 : List (SV true))
def iC := atA D F.aXb
def qI : PT := ([1,1,0,1,0],St.mk ([.leaf (.sl c0 e0),.any,.any,.bsl 7 10 0 n3,.leaf (.int .i64 i4)] ++ bG 18) (noB 7 ++ [some vx7] ++ noB 15))
theorem zE : iC D (qI c0 e0 n3 i4 vx7) = aB (decide (i4 < (↑e0.length : Int))) (aA (decide (0 ≤ i4) && decide (i4 < (↑e0.length : Int)) && sized 10 e0) (iI (e0.getD i4.toNat []) fun e => atK e 0 fun l => cO l fun s => atK e 1 fun l => cO l fun s_1 => atK e 2 fun l => cO l fun s_2 => atK e 3 fun l => cO l fun s_3 => atK e 4 fun l => dV l fun b => atK e 5 fun l => dQ .i64 l fun n => atK e 6 fun l => cO l fun s_4 => atK e 7 fun l => slK l fun c es => atK e 8 fun l => slK l fun c_1 es_1 => atK e 9 fun l => slK l fun c_2 es_2 => (D F.aXu [.agg [.str s,.str s_1,.str s_2,.str s_3,.bool b,.int .i64 n,.str s_4,.sl c es,.sl c_1 es_1,.sl c_2 es_2]] []).bind fun r => eV r.fst fun cs => aA (cs.length == 10) (atK cs 0 fun l => cO l fun s => atK cs 1 fun l => cO l fun s_5 => atK cs 2 fun l => cO l fun s_6 => atK cs 3 fun l => cO l fun s_7 => atK cs 4 fun l => dV l fun b => atK cs 5 fun l => dQ .i64 l fun n => atK cs 6 fun l => cO l fun s_8 => atK cs 7 fun l => slK l fun c es => atK cs 8 fun l => slK l fun c_3 es_3 => atK cs 9 fun l => slK l fun c_4 es_4 => aA (decide (0 ≤ i4) && decide (i4 < (↑n3 : Int))) (aA (decide ((0 + i4.toNat) * 10 + 10 ≤ vx7.length)) (iC D (qI c0 e0 n3 (IntKind.i64.wrap (i4 + 1)) (kW vx7 ((0 + i4.toNat) * 10) [.leaf (.str s),.leaf (.str s_5),.leaf (.str s_6),.leaf (.str s_7),.leaf (.bool b),.leaf (.int .i64 n),.leaf (.str s_8),.leaf (.sl c es),.leaf (.sl c_3 es_3),.leaf (.sl c_4 es_4)]))))))) ((if n3 * 10 ≤ vx7.length ∧ 0 < 10 then match dT (List.take (n3 * 10) vx7) with | some x => some ((fun l => .leaf (.sl (Fl.new true) (pB 10 n3 l))) x) | none => none else none).bind fun v => aA v.flatT (some (v,[]))) := by refine (aL (J := iC D) (fun _ _ => rfl) [[1,1,0,1,0]] _).trans ?_; generalize iC D = J; revert J; refine id ?_; intro J; kernel_rfl
theorem aGA : aV Tryz.prog D Hs bP F.aXb [.leaf (.sl c0 e0)] [] = aA ((↑e0.length : Int) == (↑e0.length : Int) && decide ((↑e0.length : Int).toNat * 168 ≤ aO) && decide ((↑e0.length : Int).toNat ≤ aO)) (iC D (qI c0 e0 (decide (0 ≤ (↑e0.length : Int)) && (↑e0.length : Int) == (↑e0.length : Int) && decide ((↑e0.length : Int).toNat * Tryz.prog.types[111].bytes ≤ aO) && decide ((↑e0.length : Int).toNat ≤ aO),(Tryz.prog.types[111].size,(↑e0.length : Int).toNat),List.map SV.leaf (List.replicate (↑e0.length : Int).toNat ((fun (x : List (aE true)) => .str (ByteArray.mk #[]) :: x) ((fun (x : List (aE true)) => .str (ByteArray.mk #[]) :: x) ((fun (x : List (aE true)) => .str (ByteArray.mk #[]) :: x) ((fun (x : List (aE true)) => .str (ByteArray.mk #[]) :: x) ((fun (x : List (aE true)) => .bool false :: x) ((fun (x : List (aE true)) => .int .i64 0 :: x) ((fun (x : List (aE true)) => .str (ByteArray.mk #[]) :: x) ((fun (x : List (aE true)) => .sl (Fl.new true) [] :: x) ((fun (x : List (aE true)) => .sl (Fl.new true) [] :: x) ((fun (x : List (aE true)) => .sl (Fl.new true) [] :: x) []))))))))))).flatten).snd.fst.snd 0 (decide (0 ≤ (↑e0.length : Int)) && (↑e0.length : Int) == (↑e0.length : Int) && decide ((↑e0.length : Int).toNat * Tryz.prog.types[111].bytes ≤ aO) && decide ((↑e0.length : Int).toNat ≤ aO),(Tryz.prog.types[111].size,(↑e0.length : Int).toNat),List.map SV.leaf (List.replicate (↑e0.length : Int).toNat ((fun (x : List (aE true)) => .str (ByteArray.mk #[]) :: x) ((fun (x : List (aE true)) => .str (ByteArray.mk #[]) :: x) ((fun (x : List (aE true)) => .str (ByteArray.mk #[]) :: x) ((fun (x : List (aE true)) => .str (ByteArray.mk #[]) :: x) ((fun (x : List (aE true)) => .bool false :: x) ((fun (x : List (aE true)) => .int .i64 0 :: x) ((fun (x : List (aE true)) => .str (ByteArray.mk #[]) :: x) ((fun (x : List (aE true)) => .sl (Fl.new true) [] :: x) ((fun (x : List (aE true)) => .sl (Fl.new true) [] :: x) ((fun (x : List (aE true)) => .sl (Fl.new true) [] :: x) []))))))))))).flatten).snd.snd)) := by refine (aH (J := iC D) (by kernel_rfl) (fun _ _ => rfl) [[1,1,0,1,0]]).trans ?_; generalize iC D = J; revert J; refine id ?_; intro J; kernel_rfl
end
section
variable (c0 : Fl true) (e0 : LT) (n3 : Nat) (i4 : Int) (vx7 : List (SV true))
def fO := atA D F.aWB
def oM : PT := ([1,1,0,1,0],St.mk ([.leaf (.sl c0 e0),.any,.any,.bsl 7 3 0 n3,.leaf (.int .i64 i4)] ++ bG 18) (noB 7 ++ [some vx7] ++ noB 15))
theorem wE : fO D (oM c0 e0 n3 i4 vx7) = aB (decide (i4 < (↑e0.length : Int))) (aA (decide (0 ≤ i4) && decide (i4 < (↑e0.length : Int)) && sized 3 e0) (iI (e0.getD i4.toNat []) fun e => atK e 0 fun l => cO l fun s => atK e 1 fun l => cO l fun s_1 => atK e 2 fun l => slK l fun c es => (D F.aWM [.agg [.str s,.str s_1,.sl c es]] []).bind fun r => eV r.fst fun cs => aA (cs.length == 3) (atK cs 0 fun l => cO l fun s => atK cs 1 fun l => cO l fun s_2 => atK cs 2 fun l => slK l fun c es => aA (decide (0 ≤ i4) && decide (i4 < (↑n3 : Int))) (aA (decide ((0 + i4.toNat) * 3 + 3 ≤ vx7.length)) (fO D (oM c0 e0 n3 (IntKind.i64.wrap (i4 + 1)) (kW vx7 ((0 + i4.toNat) * 3) [.leaf (.str s),.leaf (.str s_2),.leaf (.sl c es)]))))))) ((if n3 * 3 ≤ vx7.length ∧ 0 < 3 then match dT (List.take (n3 * 3) vx7) with | some x => some ((fun l => .leaf (.sl (Fl.new true) (pB 3 n3 l))) x) | none => none else none).bind fun v => aA v.flatT (some (v,[]))) := by refine (aL (J := fO D) (fun _ _ => rfl) [[1,1,0,1,0]] _).trans ?_; generalize fO D = J; revert J; refine id ?_; intro J; kernel_rfl
theorem aEu : aV Tryz.prog D Hs bP F.aWB [.leaf (.sl c0 e0)] [] = aA ((↑e0.length : Int) == (↑e0.length : Int) && decide ((↑e0.length : Int).toNat * 56 ≤ aO) && decide ((↑e0.length : Int).toNat ≤ aO)) (fO D (oM c0 e0 (decide (0 ≤ (↑e0.length : Int)) && (↑e0.length : Int) == (↑e0.length : Int) && decide ((↑e0.length : Int).toNat * Tryz.prog.types[157].bytes ≤ aO) && decide ((↑e0.length : Int).toNat ≤ aO),(Tryz.prog.types[157].size,(↑e0.length : Int).toNat),List.map SV.leaf (List.replicate (↑e0.length : Int).toNat ((fun (x : List (aE true)) => .str (ByteArray.mk #[]) :: x) ((fun (x : List (aE true)) => .str (ByteArray.mk #[]) :: x) ((fun (x : List (aE true)) => .sl (Fl.new true) [] :: x) [])))).flatten).snd.fst.snd 0 (decide (0 ≤ (↑e0.length : Int)) && (↑e0.length : Int) == (↑e0.length : Int) && decide ((↑e0.length : Int).toNat * Tryz.prog.types[157].bytes ≤ aO) && decide ((↑e0.length : Int).toNat ≤ aO),(Tryz.prog.types[157].size,(↑e0.length : Int).toNat),List.map SV.leaf (List.replicate (↑e0.length : Int).toNat ((fun (x : List (aE true)) => .str (ByteArray.mk #[]) :: x) ((fun (x : List (aE true)) => .str (ByteArray.mk #[]) :: x) ((fun (x : List (aE true)) => .sl (Fl.new true) [] :: x) [])))).flatten).snd.snd)) := by refine (aH (J := fO D) (by kernel_rfl) (fun _ _ => rfl) [[1,1,0,1,0]]).trans ?_; generalize fO D = J; revert J; refine id ?_; intro J; kernel_rfl
end
section
variable (c0 : Fl true) (e0 : LT) (n3 : Nat) (i4 : Int) (vx7 : List (SV true))
def jJ := atA D F.aXN
def tM : PT := ([1,1,0,1,0],St.mk ([.leaf (.sl c0 e0),.any,.any,.bsl 7 2 0 n3,.leaf (.int .i64 i4)] ++ bG 18) (noB 7 ++ [some vx7] ++ noB 15))
theorem aAN : jJ D (tM c0 e0 n3 i4 vx7) = aB (decide (i4 < (↑e0.length : Int))) (aA (decide (0 ≤ i4) && decide (i4 < (↑e0.length : Int)) && sized 2 e0) (iI (e0.getD i4.toNat []) fun e => atK e 0 fun l => cO l fun s => atK e 1 fun l => slK l fun c es => (D F.aYi [.agg [.str s,.sl c es]] []).bind fun r => eV r.fst fun cs => aA (cs.length == 2) (atK cs 0 fun l => cO l fun s => atK cs 1 fun l => slK l fun c es => aA (decide (0 ≤ i4) && decide (i4 < (↑n3 : Int))) (aA (decide ((0 + i4.toNat) * 2 + 2 ≤ vx7.length)) (jJ D (tM c0 e0 n3 (IntKind.i64.wrap (i4 + 1)) (kW vx7 ((0 + i4.toNat) * 2) [.leaf (.str s),.leaf (.sl c es)]))))))) ((if n3 * 2 ≤ vx7.length ∧ 0 < 2 then match dT (List.take (n3 * 2) vx7) with | some x => some ((fun l => .leaf (.sl (Fl.new true) (pB 2 n3 l))) x) | none => none else none).bind fun v => aA v.flatT (some (v,[]))) := by refine (aL (J := jJ D) (fun _ _ => rfl) [[1,1,0,1,0]] _).trans ?_; generalize jJ D = J; revert J; refine id ?_; intro J; kernel_rfl
theorem aII : aV Tryz.prog D Hs bP F.aXN [.leaf (.sl c0 e0)] [] = aA ((↑e0.length : Int) == (↑e0.length : Int) && decide ((↑e0.length : Int).toNat * 40 ≤ aO) && decide ((↑e0.length : Int).toNat ≤ aO)) (jJ D (tM c0 e0 (decide (0 ≤ (↑e0.length : Int)) && (↑e0.length : Int) == (↑e0.length : Int) && decide ((↑e0.length : Int).toNat * Tryz.prog.types[139].bytes ≤ aO) && decide ((↑e0.length : Int).toNat ≤ aO),(Tryz.prog.types[139].size,(↑e0.length : Int).toNat),List.map SV.leaf (List.replicate (↑e0.length : Int).toNat ((fun (x : List (aE true)) => .str (ByteArray.mk #[]) :: x) ((fun (x : List (aE true)) => .sl (Fl.new true) [] :: x) []))).flatten).snd.fst.snd 0 (decide (0 ≤ (↑e0.length : Int)) && (↑e0.length : Int) == (↑e0.length : Int) && decide ((↑e0.length : Int).toNat * Tryz.prog.types[139].bytes ≤ aO) && decide ((↑e0.length : Int).toNat ≤ aO),(Tryz.prog.types[139].size,(↑e0.length : Int).toNat),List.map SV.leaf (List.replicate (↑e0.length : Int).toNat ((fun (x : List (aE true)) => .str (ByteArray.mk #[]) :: x) ((fun (x : List (aE true)) => .sl (Fl.new true) [] :: x) []))).flatten).snd.snd)) := by refine (aH (J := jJ D) (by kernel_rfl) (fun _ _ => rfl) [[1,1,0,1,0]]).trans ?_; generalize jJ D = J; revert J; refine id ?_; intro J; kernel_rfl
end
section
variable (c0 : Fl true) (e0 : LT) (i1 i5 : Int)
def hX := atA D F.aXl
def qR : PT := ([1,0,1,0],St.mk ([.leaf (.sl c0 e0),.leaf (.int .i64 i1),.any,.any,.any,.leaf (.int .i64 i5)] ++ bG 90) (noB 96))
theorem zG : hX D (qR c0 e0 i1 i5) = aB (decide (i5 < (↑e0.length : Int))) (aA (decide (0 ≤ i5) && decide (i5 < (↑e0.length : Int)) && sized 11 e0) (if (c0.isSoft = true ∧ fC (e0.getD i5.toNat []) 0 = true) ∧ ((.leaf (.int .i64 i1) : SV true)).plain = true ∧ eQ Tryz.prog 3 = some 1 then aA (decide (0 ≤ i5) && decide (i5 < (↑e0.length : Int)) && sized 11 e0) (if (c0.isSoft = true ∧ fC (e0.getD i5.toNat []) 1 = true) ∧ ((.leaf (.bool ((IntKind.i64.wrap (i1 + 1)).tmod 3 == 0)) : SV true)).plain = true ∧ eQ Tryz.prog 4 = some 1 then (D F.aXk [.leaf (.int .i64 (IntKind.i64.wrap (IntKind.i64.wrap (i1 + 1) + 1)))] []).bind fun r => aP r.fst fun l => cO l fun s => aA (decide (0 ≤ i5) && decide (i5 < (↑e0.length : Int)) && sized 11 e0) (if (c0.isSoft = true ∧ fC (e0.getD i5.toNat []) 2 = true) ∧ ((.leaf (.str s) : SV true)).plain = true ∧ eQ Tryz.prog 9 = some 1 then (D F.aXk [.leaf (.int .i64 (IntKind.i64.wrap (IntKind.i64.wrap (IntKind.i64.wrap (i1 + 1) + 1) + 1)))] []).bind fun r => aP r.fst fun l => cO l fun s => aA (decide (0 ≤ i5) && decide (i5 < (↑e0.length : Int)) && sized 11 e0) (if (c0.isSoft = true ∧ fC (e0.getD i5.toNat []) 3 = true) ∧ ((.leaf (.str s) : SV true)).plain = true ∧ eQ Tryz.prog 9 = some 1 then aA (decide (0 ≤ i5) && decide (i5 < (↑e0.length : Int)) && sized 11 e0) (atK (e0.getD i5.toNat []) 4 fun l => slK l fun c es => (D F.aWp [.leaf (.sl c es),.leaf (.int .i64 (IntKind.i64.wrap (IntKind.i64.wrap (IntKind.i64.wrap (IntKind.i64.wrap (i1 + 1) + 1) + 1) + 1)))] []).bind fun r => aP r.fst fun l => dQ .i64 l fun n => aA (decide (0 ≤ i5) && decide (i5 < (↑e0.length : Int)) && sized 11 e0) (atK (e0.getD i5.toNat []) 5 fun l => slK l fun c es => (D F.aWc [.leaf (.sl c es),.leaf (.int .i64 n)] []).bind fun r => aP r.fst fun l => dQ .i64 l fun n => aA (decide (0 ≤ i5) && decide (i5 < (↑e0.length : Int)) && sized 11 e0) (atK (e0.getD i5.toNat []) 6 fun l => slK l fun c es => (D F.aWE [.leaf (.sl c es),.leaf (.int .i64 n)] []).bind fun r => aP r.fst fun l => dQ .i64 l fun n => aA (decide (0 ≤ i5) && decide (i5 < (↑e0.length : Int)) && sized 11 e0) (atK (e0.getD i5.toNat []) 7 fun l => slK l fun c es => (D F.aWj [.leaf (.sl c es),.leaf (.int .i64 n)] []).bind fun r => aP r.fst fun l => dQ .i64 l fun n => aA (decide (0 ≤ i5) && decide (i5 < (↑e0.length : Int)) && sized 11 e0) (atK (e0.getD i5.toNat []) 8 fun l => slK l fun c es => (D F.aWY [.leaf (.sl c es),.leaf (.int .i64 n)] []).bind fun r => aP r.fst fun l => dQ .i64 l fun n => aA (decide (0 ≤ i5) && decide (i5 < (↑e0.length : Int)) && sized 11 e0) (if (c0.isSoft = true ∧ fC (e0.getD i5.toNat []) 9 = true) ∧ ((.leaf (.bool (n.tmod 3 == 0)) : SV true)).plain = true ∧ eQ Tryz.prog 4 = some 1 then aA (decide (0 ≤ i5) && decide (i5 < (↑e0.length : Int)) && sized 11 e0) (atK (e0.getD i5.toNat []) 10 fun l => slK l fun c es => (D F.aW9 [.leaf (.sl c es),.leaf (.int .i64 (IntKind.i64.wrap (n + 1)))] []).bind fun r => aP r.fst fun l => dQ .i64 l fun n => hX D (qR c0 e0 n (IntKind.i64.wrap (i5 + 1)))) else none)))))) else none) else none) else none) else none)) (some (.leaf (.int .i64 i1),[])) := by refine (aL (J := hX D) (fun _ _ => rfl) [[1,0,1,0]] _).trans ?_; generalize hX D = J; revert J; refine id ?_; intro J; kernel_rfl
theorem aGg : aV Tryz.prog D Hs bP F.aXl [.leaf (.sl c0 e0),.leaf (.int .i64 i1)] [] = hX D (qR c0 e0 i1 0) := by refine (aH (J := hX D) (by kernel_rfl) (fun _ _ => rfl) [[1,0,1,0]]).trans ?_; generalize hX D = J; revert J; refine id ?_; intro J; kernel_rfl
end
section
variable (c0 : Fl true) (e0 : LT) (i1 i5 : Int)
def gI := atA D F.aWY
def pO : PT := ([1,0,1,0],St.mk ([.leaf (.sl c0 e0),.leaf (.int .i64 i1),.any,.any,.any,.leaf (.int .i64 i5)] ++ bG 22) (noB 28))
theorem xM : gI D (pO c0 e0 i1 i5) = aB (decide (i5 < (↑e0.length : Int))) (aA (decide (0 ≤ i5) && decide (i5 < (↑e0.length : Int)) && sized 2 e0) (if (c0.isSoft = true ∧ fC (e0.getD i5.toNat []) 0 = true) ∧ ((.leaf (.int .i64 i1) : SV true)).plain = true ∧ eQ Tryz.prog 3 = some 1 then (D F.aXk [.leaf (.int .i64 (IntKind.i64.wrap (i1 + 1)))] []).bind fun r => aP r.fst fun l => cO l fun s => aA (decide (0 ≤ i5) && decide (i5 < (↑e0.length : Int)) && sized 2 e0) (if (c0.isSoft = true ∧ fC (e0.getD i5.toNat []) 1 = true) ∧ ((.leaf (.str s) : SV true)).plain = true ∧ eQ Tryz.prog 9 = some 1 then gI D (pO c0 e0 (IntKind.i64.wrap (IntKind.i64.wrap (i1 + 1) + 1)) (IntKind.i64.wrap (i5 + 1))) else none) else none)) (some (.leaf (.int .i64 i1),[])) := by refine (aL (J := gI D) (fun _ _ => rfl) [[1,0,1,0]] _).trans ?_; generalize gI D = J; revert J; refine id ?_; intro J; kernel_rfl
theorem aFn : aV Tryz.prog D Hs bP F.aWY [.leaf (.sl c0 e0),.leaf (.int .i64 i1)] [] = gI D (pO c0 e0 i1 0) := by refine (aH (J := gI D) (by kernel_rfl) (fun _ _ => rfl) [[1,0,1,0]]).trans ?_; generalize gI D = J; revert J; refine id ?_; intro J; kernel_rfl
end
section
variable (c0 : Fl true) (e0 : LT) (i1 i5 : Int)
def fA := atA D F.aWp
def mY : PT := ([1,0,1,0],St.mk ([.leaf (.sl c0 e0),.leaf (.int .i64 i1),.any,.any,.any,.leaf (.int .i64 i5)] ++ bG 14) (noB 20))
theorem vD : fA D (mY c0 e0 i1 i5) = aB (decide (i5 < (↑e0.length : Int))) ((D F.aXk [.leaf (.int .i64 i1)] []).bind fun r => aP r.fst fun l => cO l fun s => aA (decide (0 ≤ i5) && decide (i5 < (↑e0.length : Int)) && sized 1 e0) (if (c0.isSoft = true ∧ fC (e0.getD i5.toNat []) 0 = true) ∧ ((.leaf (.str s) : SV true)).plain = true ∧ eQ Tryz.prog 9 = some 1 then fA D (mY c0 e0 (IntKind.i64.wrap (i1 + 1)) (IntKind.i64.wrap (i5 + 1))) else none)) (some (.leaf (.int .i64 i1),[])) := by refine (aL (J := fA D) (fun _ _ => rfl) [[1,0,1,0]] _).trans ?_; generalize fA D = J; revert J; refine id ?_; intro J; kernel_rfl
theorem aDy : aV Tryz.prog D Hs bP F.aWp [.leaf (.sl c0 e0),.leaf (.int .i64 i1)] [] = fA D (mY c0 e0 i1 0) := by refine (aH (J := fA D) (by kernel_rfl) (fun _ _ => rfl) [[1,0,1,0]]).trans ?_; generalize fA D = J; revert J; refine id ?_; intro J; kernel_rfl
end
section
variable (c0 : Fl true) (e0 : LT) (i1 i5 : Int)
def eM := atA D F.aWc
def lK : PT := ([1,0,1,0],St.mk ([.leaf (.sl c0 e0),.leaf (.int .i64 i1),.any,.any,.any,.leaf (.int .i64 i5)] ++ bG 55) (noB 61))
theorem sG : eM D (lK c0 e0 i1 i5) = aB (decide (i5 < (↑e0.length : Int))) ((D F.aXk [.leaf (.int .i64 i1)] []).bind fun r => aP r.fst fun l => cO l fun s => aA (decide (0 ≤ i5) && decide (i5 < (↑e0.length : Int)) && sized 6 e0) (if (c0.isSoft = true ∧ fC (e0.getD i5.toNat []) 0 = true) ∧ ((.leaf (.str s) : SV true)).plain = true ∧ eQ Tryz.prog 9 = some 1 then (D F.aXk [.leaf (.int .i64 (IntKind.i64.wrap (i1 + 1)))] []).bind fun r => aP r.fst fun l => cO l fun s => aA (decide (0 ≤ i5) && decide (i5 < (↑e0.length : Int)) && sized 6 e0) (if (c0.isSoft = true ∧ fC (e0.getD i5.toNat []) 1 = true) ∧ ((.leaf (.str s) : SV true)).plain = true ∧ eQ Tryz.prog 9 = some 1 then aA (decide (0 ≤ i5) && decide (i5 < (↑e0.length : Int)) && sized 6 e0) (atK (e0.getD i5.toNat []) 2 fun l => slK l fun c es => (D F.aWE [.leaf (.sl c es),.leaf (.int .i64 (IntKind.i64.wrap (IntKind.i64.wrap (i1 + 1) + 1)))] []).bind fun r => aP r.fst fun l => dQ .i64 l fun n => (D F.aXk [.leaf (.int .i64 n)] []).bind fun r => aP r.fst fun l => cO l fun s => aA (decide (0 ≤ i5) && decide (i5 < (↑e0.length : Int)) && sized 6 e0) (if (c0.isSoft = true ∧ fC (e0.getD i5.toNat []) 3 = true) ∧ ((.leaf (.str s) : SV true)).plain = true ∧ eQ Tryz.prog 9 = some 1 then (D F.aXk [.leaf (.int .i64 (IntKind.i64.wrap (n + 1)))] []).bind fun r => aP r.fst fun l => cO l fun s => aA (decide (0 ≤ i5) && decide (i5 < (↑e0.length : Int)) && sized 6 e0) (if (c0.isSoft = true ∧ fC (e0.getD i5.toNat []) 4 = true) ∧ ((.leaf (.str s) : SV true)).plain = true ∧ eQ Tryz.prog 9 = some 1 then aA (decide (0 ≤ i5) && decide (i5 < (↑e0.length : Int)) && sized 6 e0) (atK (e0.getD i5.toNat []) 5 fun l => slK l fun c es => (D F.aW9 [.leaf (.sl c es),.leaf (.int .i64 (IntKind.i64.wrap (IntKind.i64.wrap (n + 1) + 1)))] []).bind fun r => aP r.fst fun l => dQ .i64 l fun n => eM D (lK c0 e0 n (IntKind.i64.wrap (i5 + 1)))) else none) else none)) else none) else none)) (some (.leaf (.int .i64 i1),[])) := by refine (aL (J := eM D) (fun _ _ => rfl) [[1,0,1,0]] _).trans ?_; generalize eM D = J; revert J; refine id ?_; intro J; kernel_rfl
theorem aBY : aV Tryz.prog D Hs bP F.aWc [.leaf (.sl c0 e0),.leaf (.int .i64 i1)] [] = eM D (lK c0 e0 i1 0) := by refine (aH (J := eM D) (by kernel_rfl) (fun _ _ => rfl) [[1,0,1,0]]).trans ?_; generalize eM D = J; revert J; refine id ?_; intro J; kernel_rfl
end
section
variable (c0 : Fl true) (e0 : LT) (i1 i5 : Int)
def fR := atA D F.aWE
def oB : PT := ([1,0,1,0],St.mk ([.leaf (.sl c0 e0),.leaf (.int .i64 i1),.any,.any,.any,.leaf (.int .i64 i5)] ++ bG 90) (noB 96))
theorem wJ : fR D (oB c0 e0 i1 i5) = aB (decide (i5 < (↑e0.length : Int))) ((D F.aXk [.leaf (.int .i64 i1)] []).bind fun r => aP r.fst fun l => cO l fun s => aA (decide (0 ≤ i5) && decide (i5 < (↑e0.length : Int)) && sized 10 e0) (if (c0.isSoft = true ∧ fC (e0.getD i5.toNat []) 0 = true) ∧ ((.leaf (.str s) : SV true)).plain = true ∧ eQ Tryz.prog 9 = some 1 then (D F.aXk [.leaf (.int .i64 (IntKind.i64.wrap (i1 + 1)))] []).bind fun r => aP r.fst fun l => cO l fun s => aA (decide (0 ≤ i5) && decide (i5 < (↑e0.length : Int)) && sized 10 e0) (if (c0.isSoft = true ∧ fC (e0.getD i5.toNat []) 1 = true) ∧ ((.leaf (.str s) : SV true)).plain = true ∧ eQ Tryz.prog 9 = some 1 then (D F.aXk [.leaf (.int .i64 (IntKind.i64.wrap (IntKind.i64.wrap (i1 + 1) + 1)))] []).bind fun r => aP r.fst fun l => cO l fun s => aA (decide (0 ≤ i5) && decide (i5 < (↑e0.length : Int)) && sized 10 e0) (if (c0.isSoft = true ∧ fC (e0.getD i5.toNat []) 2 = true) ∧ ((.leaf (.str s) : SV true)).plain = true ∧ eQ Tryz.prog 9 = some 1 then (D F.aXk [.leaf (.int .i64 (IntKind.i64.wrap (IntKind.i64.wrap (IntKind.i64.wrap (i1 + 1) + 1) + 1)))] []).bind fun r => aP r.fst fun l => cO l fun s => aA (decide (0 ≤ i5) && decide (i5 < (↑e0.length : Int)) && sized 10 e0) (if (c0.isSoft = true ∧ fC (e0.getD i5.toNat []) 3 = true) ∧ ((.leaf (.str s) : SV true)).plain = true ∧ eQ Tryz.prog 9 = some 1 then aA (decide (0 ≤ i5) && decide (i5 < (↑e0.length : Int)) && sized 10 e0) (if (c0.isSoft = true ∧ fC (e0.getD i5.toNat []) 4 = true) ∧ ((.leaf (.bool ((IntKind.i64.wrap (IntKind.i64.wrap (IntKind.i64.wrap (IntKind.i64.wrap (i1 + 1) + 1) + 1) + 1)).tmod 3 == 0)) : SV true)).plain = true ∧ eQ Tryz.prog 4 = some 1 then aA (decide (0 ≤ i5) && decide (i5 < (↑e0.length : Int)) && sized 10 e0) (if (c0.isSoft = true ∧ fC (e0.getD i5.toNat []) 5 = true) ∧ ((.leaf (.int .i64 (IntKind.i64.wrap (IntKind.i64.wrap (IntKind.i64.wrap (IntKind.i64.wrap (IntKind.i64.wrap (i1 + 1) + 1) + 1) + 1) + 1))) : SV true)).plain = true ∧ eQ Tryz.prog 3 = some 1 then (D F.aXk [.leaf (.int .i64 (IntKind.i64.wrap (IntKind.i64.wrap (IntKind.i64.wrap (IntKind.i64.wrap (IntKind.i64.wrap (IntKind.i64.wrap (i1 + 1) + 1) + 1) + 1) + 1) + 1)))] []).bind fun r => aP r.fst fun l => cO l fun s => aA (decide (0 ≤ i5) && decide (i5 < (↑e0.length : Int)) && sized 10 e0) (if (c0.isSoft = true ∧ fC (e0.getD i5.toNat []) 6 = true) ∧ ((.leaf (.str s) : SV true)).plain = true ∧ eQ Tryz.prog 9 = some 1 then aA (decide (0 ≤ i5) && decide (i5 < (↑e0.length : Int)) && sized 10 e0) (atK (e0.getD i5.toNat []) 7 fun l => slK l fun c es => (D F.aWF [.leaf (.sl c es),.leaf (.int .i64 (IntKind.i64.wrap (IntKind.i64.wrap (IntKind.i64.wrap (IntKind.i64.wrap (IntKind.i64.wrap (IntKind.i64.wrap (IntKind.i64.wrap (i1 + 1) + 1) + 1) + 1) + 1) + 1) + 1)))] []).bind fun r => aP r.fst fun l => dQ .i64 l fun n => aA (decide (0 ≤ i5) && decide (i5 < (↑e0.length : Int)) && sized 10 e0) (atK (e0.getD i5.toNat []) 8 fun l => slK l fun c es => (D F.aWp [.leaf (.sl c es),.leaf (.int .i64 n)] []).bind fun r => aP r.fst fun l => dQ .i64 l fun n => aA (decide (0 ≤ i5) && decide (i5 < (↑e0.length : Int)) && sized 10 e0) (atK (e0.getD i5.toNat []) 9 fun l => slK l fun c es => (D F.aW9 [.leaf (.sl c es),.leaf (.int .i64 n)] []).bind fun r => aP r.fst fun l => dQ .i64 l fun n => fR D (oB c0 e0 n (IntKind.i64.wrap (i5 + 1)))))) else none) else none) else none) else none) else none) else none) else none)) (some (.leaf (.int .i64 i1),[])) := by refine (aL (J := fR D) (fun _ _ => rfl) [[1,0,1,0]] _).trans ?_; generalize fR D = J; revert J; refine id ?_; intro J; kernel_rfl
theorem aEz : aV Tryz.prog D Hs bP F.aWE [.leaf (.sl c0 e0),.leaf (.int .i64 i1)] [] = fR D (oB c0 e0 i1 0) := by refine (aH (J := fR D) (by kernel_rfl) (fun _ _ => rfl) [[1,0,1,0]]).trans ?_; generalize fR D = J; revert J; refine id ?_; intro J; kernel_rfl
end
section
variable (c0 : Fl true) (e0 : LT) (i1 i5 : Int)
def eS := atA D F.aWj
def mK : PT := ([1,0,1,0],St.mk ([.leaf (.sl c0 e0),.leaf (.int .i64 i1),.any,.any,.any,.leaf (.int .i64 i5)] ++ bG 30) (noB 36))
theorem sY : eS D (mK c0 e0 i1 i5) = aB (decide (i5 < (↑e0.length : Int))) ((D F.aXk [.leaf (.int .i64 i1)] []).bind fun r => aP r.fst fun l => cO l fun s => aA (decide (0 ≤ i5) && decide (i5 < (↑e0.length : Int)) && sized 3 e0) (if (c0.isSoft = true ∧ fC (e0.getD i5.toNat []) 0 = true) ∧ ((.leaf (.str s) : SV true)).plain = true ∧ eQ Tryz.prog 9 = some 1 then (D F.aXk [.leaf (.int .i64 (IntKind.i64.wrap (i1 + 1)))] []).bind fun r => aP r.fst fun l => cO l fun s => aA (decide (0 ≤ i5) && decide (i5 < (↑e0.length : Int)) && sized 3 e0) (if (c0.isSoft = true ∧ fC (e0.getD i5.toNat []) 1 = true) ∧ ((.leaf (.str s) : SV true)).plain = true ∧ eQ Tryz.prog 9 = some 1 then aA (decide (0 ≤ i5) && decide (i5 < (↑e0.length : Int)) && sized 3 e0) (atK (e0.getD i5.toNat []) 2 fun l => slK l fun c es => (D F.aW9 [.leaf (.sl c es),.leaf (.int .i64 (IntKind.i64.wrap (IntKind.i64.wrap (i1 + 1) + 1)))] []).bind fun r => aP r.fst fun l => dQ .i64 l fun n => eS D (mK c0 e0 n (IntKind.i64.wrap (i5 + 1)))) else none) else none)) (some (.leaf (.int .i64 i1),[])) := by refine (aL (J := eS D) (fun _ _ => rfl) [[1,0,1,0]] _).trans ?_; generalize eS D = J; revert J; refine id ?_; intro J; kernel_rfl
theorem aCw : aV Tryz.prog D Hs bP F.aWj [.leaf (.sl c0 e0),.leaf (.int .i64 i1)] [] = eS D (mK c0 e0 i1 0) := by refine (aH (J := eS D) (by kernel_rfl) (fun _ _ => rfl) [[1,0,1,0]]).trans ?_; generalize eS D = J; revert J; refine id ?_; intro J; kernel_rfl
end
section
variable (c0 : Fl true) (e0 : LT) (i1 i5 : Int)
def iE := atA D F.aW9
def qU : PT := ([1,0,1,0],St.mk ([.leaf (.sl c0 e0),.leaf (.int .i64 i1),.any,.any,.any,.leaf (.int .i64 i5)] ++ bG 22) (noB 28))
theorem zQ : iE D (qU c0 e0 i1 i5) = aB (decide (i5 < (↑e0.length : Int))) ((D F.aXk [.leaf (.int .i64 i1)] []).bind fun r => aP r.fst fun l => cO l fun s => aA (decide (0 ≤ i5) && decide (i5 < (↑e0.length : Int)) && sized 2 e0) (if (c0.isSoft = true ∧ fC (e0.getD i5.toNat []) 0 = true) ∧ ((.leaf (.str s) : SV true)).plain = true ∧ eQ Tryz.prog 9 = some 1 then aA (decide (0 ≤ i5) && decide (i5 < (↑e0.length : Int)) && sized 2 e0) (atK (e0.getD i5.toNat []) 1 fun l => slK l fun c es => (D F.aW0 [.leaf (.sl c es),.leaf (.int .i64 (IntKind.i64.wrap (i1 + 1)))] []).bind fun r => aP r.fst fun l => dQ .i64 l fun n => iE D (qU c0 e0 n (IntKind.i64.wrap (i5 + 1)))) else none)) (some (.leaf (.int .i64 i1),[])) := by refine (aL (J := iE D) (fun _ _ => rfl) [[1,0,1,0]] _).trans ?_; generalize iE D = J; revert J; refine id ?_; intro J; kernel_rfl
theorem aGp : aV Tryz.prog D Hs bP F.aW9 [.leaf (.sl c0 e0),.leaf (.int .i64 i1)] [] = iE D (qU c0 e0 i1 0) := by refine (aH (J := iE D) (by kernel_rfl) (fun _ _ => rfl) [[1,0,1,0]]).trans ?_; generalize iE D = J; revert J; refine id ?_; intro J; kernel_rfl
end
def aD1 := atA D F.aXR
theorem aIQ (i0_0 : Int) (s0_1 : ByteArray) : aV Tryz.prog D Hs bP F.aXR [.agg [.int .i64 i0_0,.str s0_1]] [] = some (.agg [.int .i64 i0_0,.str s0_1],[]) := by refine (aH (J := aD1 D) (by kernel_rfl) (fun _ _ => rfl) []).trans ?_; generalize aD1 D = J; revert J; refine id ?_; intro J; kernel_rfl
def aAo := atA D F.aWx
theorem aEG (s0_0 s0_1 : ByteArray) (c0_2 : Fl true) (e0_2 : LT) (s0_3 s0_4 : ByteArray) (c0_5 : Fl true) (e0_5 : LT) : aV Tryz.prog D Hs bP F.aWx [.agg [.str s0_0,.str s0_1,.sl c0_2 e0_2,.str s0_3,.str s0_4,.sl c0_5 e0_5]] [] = (D F.aXb [.leaf (.sl c0_2 e0_2)] []).bind fun r => pY r.fst fun c es => (D F.aXQ [.agg [.str s0_3,.str s0_4]] []).bind fun r => eV r.fst fun cs => aA (cs.length == 2) (atK cs 0 fun l => cO l fun s => atK cs 1 fun l => cO l fun s_1 => (D F.aXN [.leaf (.sl c0_5 e0_5)] []).bind fun r => pY r.fst fun c_1 es_1 => some (.agg [.str s0_0,.str s0_1,.sl c es,.str s,.str s_1,.sl c_1 es_1],[])) := by refine (aH (J := aAo D) (by kernel_rfl) (fun _ _ => rfl) []).trans ?_; generalize aAo D = J; revert J; refine id ?_; intro J; kernel_rfl
def aCQ := atA D F.aXu
theorem aH0 (s0_0 s0_1 s0_2 s0_3 : ByteArray) (b0_4 : Bool) (i0_5 : Int) (s0_6 : ByteArray) (c0_7 : Fl true) (e0_7 : LT) (c0_8 : Fl true) (e0_8 : LT) (c0_9 : Fl true) (e0_9 : LT) : aV Tryz.prog D Hs bP F.aXu [.agg [.str s0_0,.str s0_1,.str s0_2,.str s0_3,.bool b0_4,.int .i64 i0_5,.str s0_6,.sl c0_7 e0_7,.sl c0_8 e0_8,.sl c0_9 e0_9]] [] = (D F.aXQ [.agg [.str s0_2,.str s0_3]] []).bind fun r => eV r.fst fun cs => aA (cs.length == 2) (atK cs 0 fun l => cO l fun s => atK cs 1 fun l => cO l fun s_1 => (D F.aXr [.agg [.int .i64 i0_5,.str s0_6,.sl c0_7 e0_7,.sl c0_8 e0_8]] []).bind fun r => eV r.fst fun cs => aA (cs.length == 4) (atK cs 0 fun l => dQ .i64 l fun n => atK cs 1 fun l => cO l fun s_2 => atK cs 2 fun l => slK l fun c es => atK cs 3 fun l => slK l fun c_1 es_1 => (D F.aXN [.leaf (.sl c0_9 e0_9)] []).bind fun r => pY r.fst fun c_2 es_2 => some (.agg [.str s0_0,.str s0_1,.str s,.str s_1,.bool b0_4,.int .i64 n,.str s_2,.sl c es,.sl c_1 es_1,.sl c_2 es_2],[]))) := by refine (aH (J := aCQ D) (by kernel_rfl) (fun _ _ => rfl) []).trans ?_; generalize aCQ D = J; revert J; refine id ?_; intro J; kernel_rfl
def aAP := atA D F.aWM
theorem aE7 (s0_0 s0_1 : ByteArray) (c0_2 : Fl true) (e0_2 : LT) : aV Tryz.prog D Hs bP F.aWM [.agg [.str s0_0,.str s0_1,.sl c0_2 e0_2]] [] = (D F.aXN [.leaf (.sl c0_2 e0_2)] []).bind fun r => pY r.fst fun c es => some (.agg [.str s0_0,.str s0_1,.sl c es],[]) := by refine (aH (J := aAP D) (by kernel_rfl) (fun _ _ => rfl) []).trans ?_; generalize aAP D = J; revert J; refine id ?_; intro J; kernel_rfl
def aFI := atA D F.aYi
theorem aJ4 (s0_0 : ByteArray) (c0_1 : Fl true) (e0_1 : LT) : aV Tryz.prog D Hs bP F.aYi [.agg [.str s0_0,.sl c0_1 e0_1]] [] = (D F.aXZ [.leaf (.sl c0_1 e0_1)] []).bind fun r => pY r.fst fun c es => some (.agg [.str s0_0,.sl c es],[]) := by refine (aH (J := aFI D) (by kernel_rfl) (fun _ _ => rfl) []).trans ?_; generalize aFI D = J; revert J; refine id ?_; intro J; kernel_rfl
section
variable (c0 : Fl true) (e0 : LT) (i1 i5 : Int)
def fQ := atA D F.aWF
def oI : PT := ([1,0,1,0],St.mk ([.leaf (.sl c0 e0),.leaf (.int .i64 i1),.any,.any,.any,.leaf (.int .i64 i5)] ++ bG 36) (noB 42))
theorem vW : fQ D (oI c0 e0 i1 i5) = aB (decide (i5 < (↑e0.length : Int))) (aA (decide (0 ≤ i5) && decide (i5 < (↑e0.length : Int)) && sized 4 e0) (if (c0.isSoft = true ∧ fC (e0.getD i5.toNat []) 0 = true) ∧ ((.leaf (.int .i64 i1) : SV true)).plain = true ∧ eQ Tryz.prog 3 = some 1 then (D F.aXk [.leaf (.int .i64 (IntKind.i64.wrap (i1 + 1)))] []).bind fun r => aP r.fst fun l => cO l fun s => aA (decide (0 ≤ i5) && decide (i5 < (↑e0.length : Int)) && sized 4 e0) (if (c0.isSoft = true ∧ fC (e0.getD i5.toNat []) 1 = true) ∧ ((.leaf (.str s) : SV true)).plain = true ∧ eQ Tryz.prog 9 = some 1 then aA (decide (0 ≤ i5) && decide (i5 < (↑e0.length : Int)) && sized 4 e0) (atK (e0.getD i5.toNat []) 2 fun l => slK l fun c es => (D F.aWF [.leaf (.sl c es),.leaf (.int .i64 (IntKind.i64.wrap (IntKind.i64.wrap (i1 + 1) + 1)))] []).bind fun r => aP r.fst fun l => dQ .i64 l fun n => aA (decide (0 ≤ i5) && decide (i5 < (↑e0.length : Int)) && sized 4 e0) (atK (e0.getD i5.toNat []) 3 fun l => slK l fun c es => (D F.aWp [.leaf (.sl c es),.leaf (.int .i64 n)] []).bind fun r => aP r.fst fun l => dQ .i64 l fun n => fQ D (oI c0 e0 n (IntKind.i64.wrap (i5 + 1))))) else none) else none)) (some (.leaf (.int .i64 i1),[])) := by refine (aL (J := fQ D) (fun _ _ => rfl) [[1,0,1,0]] _).trans ?_; generalize fQ D = J; revert J; refine id ?_; intro J; kernel_rfl
theorem aEB : aV Tryz.prog D Hs bP F.aWF [.leaf (.sl c0 e0),.leaf (.int .i64 i1)] [] = fQ D (oI c0 e0 i1 0) := by refine (aH (J := fQ D) (by kernel_rfl) (fun _ _ => rfl) [[1,0,1,0]]).trans ?_; generalize fQ D = J; revert J; refine id ?_; intro J; kernel_rfl
end
section
variable (c0 : Fl true) (e0 : LT) (i1 i5 : Int)
def iH := atA D F.aW0
def qS : PT := ([1,0,1,0],St.mk ([.leaf (.sl c0 e0),.leaf (.int .i64 i1),.any,.any,.any,.leaf (.int .i64 i5)] ++ bG 48) (noB 54))
theorem zX : iH D (qS c0 e0 i1 i5) = aB (decide (i5 < (↑e0.length : Int))) ((D F.aXk [.leaf (.int .i64 i1)] []).bind fun r => aP r.fst fun l => cO l fun s => aA (decide (0 ≤ i5) && decide (i5 < (↑e0.length : Int)) && sized 5 e0) (if (c0.isSoft = true ∧ fC (e0.getD i5.toNat []) 0 = true) ∧ ((.leaf (.str s) : SV true)).plain = true ∧ eQ Tryz.prog 9 = some 1 then aA (decide (0 ≤ i5) && decide (i5 < (↑e0.length : Int)) && sized 5 e0) (if (c0.isSoft = true ∧ fC (e0.getD i5.toNat []) 1 = true) ∧ ((.leaf (.int .i64 (IntKind.i64.wrap (i1 + 1))) : SV true)).plain = true ∧ eQ Tryz.prog 3 = some 1 then (D F.aXk [.leaf (.int .i64 (IntKind.i64.wrap (IntKind.i64.wrap (i1 + 1) + 1)))] []).bind fun r => aP r.fst fun l => cO l fun s => aA (decide (0 ≤ i5) && decide (i5 < (↑e0.length : Int)) && sized 5 e0) (if (c0.isSoft = true ∧ fC (e0.getD i5.toNat []) 2 = true) ∧ ((.leaf (.str s) : SV true)).plain = true ∧ eQ Tryz.prog 9 = some 1 then aA (decide (0 ≤ i5) && decide (i5 < (↑e0.length : Int)) && sized 5 e0) (atK (e0.getD i5.toNat []) 3 fun l => slK l fun c es => (D F.aWF [.leaf (.sl c es),.leaf (.int .i64 (IntKind.i64.wrap (IntKind.i64.wrap (IntKind.i64.wrap (i1 + 1) + 1) + 1)))] []).bind fun r => aP r.fst fun l => dQ .i64 l fun n => aA (decide (0 ≤ i5) && decide (i5 < (↑e0.length : Int)) && sized 5 e0) (atK (e0.getD i5.toNat []) 4 fun l => slK l fun c es => (D F.aWp [.leaf (.sl c es),.leaf (.int .i64 n)] []).bind fun r => aP r.fst fun l => dQ .i64 l fun n => iH D (qS c0 e0 n (IntKind.i64.wrap (i5 + 1))))) else none) else none) else none)) (some (.leaf (.int .i64 i1),[])) := by refine (aL (J := iH D) (fun _ _ => rfl) [[1,0,1,0]] _).trans ?_; generalize iH D = J; revert J; refine id ?_; intro J; kernel_rfl
theorem aGs : aV Tryz.prog D Hs bP F.aW0 [.leaf (.sl c0 e0),.leaf (.int .i64 i1)] [] = iH D (qS c0 e0 i1 0) := by refine (aH (J := iH D) (by kernel_rfl) (fun _ _ => rfl) [[1,0,1,0]]).trans ?_; generalize iH D = J; revert J; refine id ?_; intro J; kernel_rfl
end
def aEb := atA D F.aXQ
theorem aIU (s0_0 s0_1 : ByteArray) : aV Tryz.prog D Hs bP F.aXQ [.agg [.str s0_0,.str s0_1]] [] = some (.agg [.str s0_0,.str s0_1],[]) := by refine (aH (J := aEb D) (by kernel_rfl) (fun _ _ => rfl) []).trans ?_; generalize aEb D = J; revert J; refine id ?_; intro J; kernel_rfl
def aCN := atA D F.aXr
theorem aHG (i0_0 : Int) (s0_1 : ByteArray) (c0_2 : Fl true) (e0_2 : LT) (c0_3 : Fl true) (e0_3 : LT) : aV Tryz.prog D Hs bP F.aXr [.agg [.int .i64 i0_0,.str s0_1,.sl c0_2 e0_2,.sl c0_3 e0_3]] [] = (D F.aXg [.leaf (.sl c0_2 e0_2)] []).bind fun r => pY r.fst fun c es => (D F.aWT [.leaf (.sl c0_3 e0_3)] []).bind fun r => pY r.fst fun c_1 es_1 => some (.agg [.int .i64 i0_0,.str s0_1,.sl c es,.sl c_1 es_1],[]) := by refine (aH (J := aCN D) (by kernel_rfl) (fun _ _ => rfl) []).trans ?_; generalize aCN D = J; revert J; refine id ?_; intro J; kernel_rfl
section
variable (c0 : Fl true) (e0 : LT) (n3 : Nat) (i4 : Int) (vx7 : List (SV true))
def jR := atA D F.aXZ
def tN : PT := ([1,1,0,1,0],St.mk ([.leaf (.sl c0 e0),.any,.any,.bsl 7 5 0 n3,.leaf (.int .i64 i4)] ++ bG 18) (noB 7 ++ [some vx7] ++ noB 15))
theorem aA3 : jR D (tN c0 e0 n3 i4 vx7) = aB (decide (i4 < (↑e0.length : Int))) (aA (decide (0 ≤ i4) && decide (i4 < (↑e0.length : Int)) && sized 5 e0) (iI (e0.getD i4.toNat []) fun e => atK e 0 fun l => cO l fun s => atK e 1 fun l => dQ .i64 l fun n => atK e 2 fun l => cO l fun s_1 => atK e 3 fun l => slK l fun c es => atK e 4 fun l => slK l fun c_1 es_1 => (D F.aYj [.agg [.str s,.int .i64 n,.str s_1,.sl c es,.sl c_1 es_1]] []).bind fun r => eV r.fst fun cs => aA (cs.length == 5) (atK cs 0 fun l => cO l fun s => atK cs 1 fun l => dQ .i64 l fun n => atK cs 2 fun l => cO l fun s_2 => atK cs 3 fun l => slK l fun c es => atK cs 4 fun l => slK l fun c_2 es_2 => aA (decide (0 ≤ i4) && decide (i4 < (↑n3 : Int))) (aA (decide ((0 + i4.toNat) * 5 + 5 ≤ vx7.length)) (jR D (tN c0 e0 n3 (IntKind.i64.wrap (i4 + 1)) (kW vx7 ((0 + i4.toNat) * 5) [.leaf (.str s),.leaf (.int .i64 n),.leaf (.str s_2),.leaf (.sl c es),.leaf (.sl c_2 es_2)]))))))) ((if n3 * 5 ≤ vx7.length ∧ 0 < 5 then match dT (List.take (n3 * 5) vx7) with | some x => some ((fun l => .leaf (.sl (Fl.new true) (pB 5 n3 l))) x) | none => none else none).bind fun v => aA v.flatT (some (v,[]))) := by refine (aL (J := jR D) (fun _ _ => rfl) [[1,1,0,1,0]] _).trans ?_; generalize jR D = J; revert J; refine id ?_; intro J; kernel_rfl
theorem aIw : aV Tryz.prog D Hs bP F.aXZ [.leaf (.sl c0 e0)] [] = aA ((↑e0.length : Int) == (↑e0.length : Int) && decide ((↑e0.length : Int).toNat * 88 ≤ aO) && decide ((↑e0.length : Int).toNat ≤ aO)) (jR D (tN c0 e0 (decide (0 ≤ (↑e0.length : Int)) && (↑e0.length : Int) == (↑e0.length : Int) && decide ((↑e0.length : Int).toNat * Tryz.prog.types[105].bytes ≤ aO) && decide ((↑e0.length : Int).toNat ≤ aO),(Tryz.prog.types[105].size,(↑e0.length : Int).toNat),List.map SV.leaf (List.replicate (↑e0.length : Int).toNat ((fun (x : List (aE true)) => .str (ByteArray.mk #[]) :: x) ((fun (x : List (aE true)) => .int .i64 0 :: x) ((fun (x : List (aE true)) => .str (ByteArray.mk #[]) :: x) ((fun (x : List (aE true)) => .sl (Fl.new true) [] :: x) ((fun (x : List (aE true)) => .sl (Fl.new true) [] :: x) [])))))).flatten).snd.fst.snd 0 (decide (0 ≤ (↑e0.length : Int)) && (↑e0.length : Int) == (↑e0.length : Int) && decide ((↑e0.length : Int).toNat * Tryz.prog.types[105].bytes ≤ aO) && decide ((↑e0.length : Int).toNat ≤ aO),(Tryz.prog.types[105].size,(↑e0.length : Int).toNat),List.map SV.leaf (List.replicate (↑e0.length : Int).toNat ((fun (x : List (aE true)) => .str (ByteArray.mk #[]) :: x) ((fun (x : List (aE true)) => .int .i64 0 :: x) ((fun (x : List (aE true)) => .str (ByteArray.mk #[]) :: x) ((fun (x : List (aE true)) => .sl (Fl.new true) [] :: x) ((fun (x : List (aE true)) => .sl (Fl.new true) [] :: x) [])))))).flatten).snd.snd)) := by refine (aH (J := jR D) (by kernel_rfl) (fun _ _ => rfl) [[1,1,0,1,0]]).trans ?_; generalize jR D = J; revert J; refine id ?_; intro J; kernel_rfl
end
section
variable (c0 : Fl true) (e0 : LT) (n3 : Nat) (i4 : Int) (vx7 : List (SV true))
def iG := atA D F.aXg
def qJ : PT := ([1,1,0,1,0],St.mk ([.leaf (.sl c0 e0),.any,.any,.bsl 7 4 0 n3,.leaf (.int .i64 i4)] ++ bG 18) (noB 7 ++ [some vx7] ++ noB 15))
theorem zV : iG D (qJ c0 e0 n3 i4 vx7) = aB (decide (i4 < (↑e0.length : Int))) (aA (decide (0 ≤ i4) && decide (i4 < (↑e0.length : Int)) && sized 4 e0) (iI (e0.getD i4.toNat []) fun e => atK e 0 fun l => dQ .i64 l fun n => atK e 1 fun l => cO l fun s => atK e 2 fun l => slK l fun c es => atK e 3 fun l => slK l fun c_1 es_1 => (D F.aXr [.agg [.int .i64 n,.str s,.sl c es,.sl c_1 es_1]] []).bind fun r => eV r.fst fun cs => aA (cs.length == 4) (atK cs 0 fun l => dQ .i64 l fun n => atK cs 1 fun l => cO l fun s => atK cs 2 fun l => slK l fun c es => atK cs 3 fun l => slK l fun c_2 es_2 => aA (decide (0 ≤ i4) && decide (i4 < (↑n3 : Int))) (aA (decide ((0 + i4.toNat) * 4 + 4 ≤ vx7.length)) (iG D (qJ c0 e0 n3 (IntKind.i64.wrap (i4 + 1)) (kW vx7 ((0 + i4.toNat) * 4) [.leaf (.int .i64 n),.leaf (.str s),.leaf (.sl c es),.leaf (.sl c_2 es_2)]))))))) ((if n3 * 4 ≤ vx7.length ∧ 0 < 4 then match dT (List.take (n3 * 4) vx7) with | some x => some ((fun l => .leaf (.sl (Fl.new true) (pB 4 n3 l))) x) | none => none else none).bind fun v => aA v.flatT (some (v,[]))) := by refine (aL (J := iG D) (fun _ _ => rfl) [[1,1,0,1,0]] _).trans ?_; generalize iG D = J; revert J; refine id ?_; intro J; kernel_rfl
theorem aGl : aV Tryz.prog D Hs bP F.aXg [.leaf (.sl c0 e0)] [] = aA ((↑e0.length : Int) == (↑e0.length : Int) && decide ((↑e0.length : Int).toNat * 72 ≤ aO) && decide ((↑e0.length : Int).toNat ≤ aO)) (iG D (qJ c0 e0 (decide (0 ≤ (↑e0.length : Int)) && (↑e0.length : Int) == (↑e0.length : Int) && decide ((↑e0.length : Int).toNat * Tryz.prog.types[103].bytes ≤ aO) && decide ((↑e0.length : Int).toNat ≤ aO),(Tryz.prog.types[103].size,(↑e0.length : Int).toNat),List.map SV.leaf (List.replicate (↑e0.length : Int).toNat ((fun (x : List (aE true)) => .int .i64 0 :: x) ((fun (x : List (aE true)) => .str (ByteArray.mk #[]) :: x) ((fun (x : List (aE true)) => .sl (Fl.new true) [] :: x) ((fun (x : List (aE true)) => .sl (Fl.new true) [] :: x) []))))).flatten).snd.fst.snd 0 (decide (0 ≤ (↑e0.length : Int)) && (↑e0.length : Int) == (↑e0.length : Int) && decide ((↑e0.length : Int).toNat * Tryz.prog.types[103].bytes ≤ aO) && decide ((↑e0.length : Int).toNat ≤ aO),(Tryz.prog.types[103].size,(↑e0.length : Int).toNat),List.map SV.leaf (List.replicate (↑e0.length : Int).toNat ((fun (x : List (aE true)) => .int .i64 0 :: x) ((fun (x : List (aE true)) => .str (ByteArray.mk #[]) :: x) ((fun (x : List (aE true)) => .sl (Fl.new true) [] :: x) ((fun (x : List (aE true)) => .sl (Fl.new true) [] :: x) []))))).flatten).snd.snd)) := by refine (aH (J := iG D) (by kernel_rfl) (fun _ _ => rfl) [[1,1,0,1,0]]).trans ?_; generalize iG D = J; revert J; refine id ?_; intro J; kernel_rfl
end
def aE5 := atA D F.aYj
theorem aKs (s0_0 : ByteArray) (i0_1 : Int) (s0_2 : ByteArray) (c0_3 : Fl true) (e0_3 : LT) (c0_4 : Fl true) (e0_4 : LT) : aV Tryz.prog D Hs bP F.aYj [.agg [.str s0_0,.int .i64 i0_1,.str s0_2,.sl c0_3 e0_3,.sl c0_4 e0_4]] [] = (D F.aXr [.agg [.int .i64 i0_1,.str s0_2,.sl c0_3 e0_3,.sl c0_4 e0_4]] []).bind fun r => eV r.fst fun cs => aA (cs.length == 4) (atK cs 0 fun l => dQ .i64 l fun n => atK cs 1 fun l => cO l fun s => atK cs 2 fun l => slK l fun c es => atK cs 3 fun l => slK l fun c_1 es_1 => some (.agg [.str s0_0,.int .i64 n,.str s,.sl c es,.sl c_1 es_1],[])) := by refine (aH (J := aE5 D) (by kernel_rfl) (fun _ _ => rfl) []).trans ?_; generalize aE5 D = J; revert J; refine id ?_; intro J; kernel_rfl
end
end Go.Vs
end
