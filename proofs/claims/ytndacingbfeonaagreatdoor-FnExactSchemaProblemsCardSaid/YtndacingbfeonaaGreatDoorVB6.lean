/- What the program's functions compute, read off their text by the shadow runner (MLw0, MPI, MF32, MTold, VsBound, MTa, MTs, MTe, MD); no condition. -/
import Derived.Shelf.Strconv.ParseIntPublic10
import Derived.Test.YtndacingbfeonaaGreatDoorChecked
import Derived.WalkKit
import Derived.Lib.Walk
import Derived.BigCall
import Derived.BigGuard
import Derived.Below
import Derived.Lib.AtoiErrMem
import Derived.Test.YtndacingbfeonaaGreatDoorVB5
section
open Go Go.Vs Go.Proofs
set_option linter.unusedVariables false
set_option linter.unusedSimpArgs false
namespace Go.Vs
section
variable {D : cD false}
def aOv (D : cD false) (l : List FuncId) : Prop := ∀ f ∈ l, ∀ (a : List (SV false)) (b : List (List (SV false))) (r : SV false × List (List (SV false))), aU Tryz.prog D Hs bN f a b = some r → D f a b = some r
theorem aRC (hD : aOv D [F.aXm]) {s : ByteArray} {c : UInt8} : D F.aXm [.leaf (.str s), .leaf (.str ⟨#[c]⟩)] [] = some (aJ (decide (s.data.toList.head? = some c)), []) := by
  refine hD _ (by simp) _ _ _ ?_
  have hn := aHS s
  have h1 : (ByteArray.mk #[c]).size = 1 := rfl
  rw [nG, h1]
  cases hl : s.data.toList with
  | nil =>
    rw [hl] at hn
    have h0 : ¬ ((s.size : Nat) : Int) ≥ ((1 : Nat) : Int) := by simp at hn; omega
    simp -implicitDefEqProofs only [h0, decide_false, bT, aC]
    rfl
  | cons x r =>
    rw [hl] at hn
    have h0 : ((s.size : Nat) : Int) ≥ ((1 : Nat) : Int) := by simp at hn; omega
    have h2 : 1 ≤ s.size := by omega
    have he : (s.extract 0 1).toList = [x] := by rw [aS0, aKB, hl]; simp
    have h3 : (ByteArray.mk #[c]).toList = [c] := by rw [aS0]
    simp -implicitDefEqProofs only [h0, decide_true, bT, aD, Int.toNat_natCast, h2, aH, he, h3]
    have : (([x] : List UInt8) == [c]) = decide ((x :: r).head? = some c) := by
      by_cases hx : x = c <;> simp [hx]
    rw [this]
theorem aQm (hD : aOv D [F.aXm, F.aXl, F.aXA]) {s : ByteArray} {c : UInt8} : D F.aXA [.leaf (.str s), .leaf (.str ⟨#[c]⟩)] [] = some (.leaf (.str (aFV s c)), []) := by
  have key : D F.aXl [.leaf (.str s), .leaf (.str ⟨#[c]⟩)] [] = some (.leaf (.str (aFV s c)), []) := by
    refine hD _ (by simp) _ _ _ ?_
    have hn := aHS s
    rw [uQ, aRC (fun f hf => hD f (by simp at hf; simp [hf])), bY]
    unfold aFV
    by_cases h : s.data.toList.head? = some c
    · have h2 : 1 ≤ s.size := by
        cases hl : s.data.toList with
        | nil => simp [hl] at h
        | cons x r => rw [hl] at hn; simp at hn; omega
      have h1 : (ByteArray.mk #[c]).size = 1 := rfl
      simp -implicitDefEqProofs only [h, decide_true, aD, if_true, h1, Int.toNat_natCast, h2, Nat.le_refl, Bool.and_self, aH]
    · simp -implicitDefEqProofs only [h, decide_false, aC, if_false]
  refine hD _ (by simp) _ _ _ ?_
  rw [aEe, key, aAm]
theorem aTV (hD : aOv D [F.aYw, F.aYN]) {s : ByteArray} (hs : s.size ≤ maxLen) : D F.aYN [.leaf (.str s)] [] = some (aJ (s.data.toList.all rQ && decide (s.data.toList ≠ [])), []) := by
  have fig : ∀ b : UInt8, D F.aYw [.leaf (.int .u8 (b.toNat : Int))] [] = some (aJ (rQ b), []) := fun b => by
    refine hD _ (by simp) _ _ _ ?_
    rw [aJY]
    unfold rQ
    by_cases h : 48 ≤ b.toNat
    · have h1 : ((b.toNat : Nat) : Int) ≥ 48 := by omega
      have h2 : (((b.toNat : Nat) : Int) ≤ 57) = (b.toNat ≤ 57) := by simp; omega
      simp -implicitDefEqProofs only [h, h1, h2, decide_true, bT, aD, Bool.true_and]
    · have h1 : ¬ ((b.toNat : Nat) : Int) ≥ 48 := by omega
      simp -implicitDefEqProofs only [h, h1, decide_false, bT, aC, Bool.false_and]
  refine hD _ (by simp) _ _ _ ?_
  have hn := aHS s
  rw [aKZ]
  have := aUy (l := s.data.toList) (p := rQ) (A := fun i => lC D (yM s s.size i)) (yes := some (aJ (decide (s.data.toList ≠ [])), [])) (no := some (aJ false, [])) (by
    rw [aCF, hn]
    simp -implicitDefEqProofs only [Int.lt_irrefl, decide_false, aC, aS0]
    have : (!s.data.toList == (ByteArray.mk #[]).data.toList) = decide (s.data.toList ≠ []) := by
      cases s.data.toList <;> simp
    rw [this]) (fun i hi => by
    rw [aCF]
    have hi' : i < s.size := by omega
    have hg : s.data.toList.getD i 0 = s.data.toList[i] := by rw [List.getD_eq_getElem?_getD, List.getElem?_eq_getElem hi]; rfl
    have hw := aX (Nat.lt_of_lt_of_le hi' hs)
    simp -implicitDefEqProofs only [inI, hi', hg, fig, bY, hw])
  rw [this]
  cases s.data.toList.all rQ <;> simp
theorem aVf (hD : aOv D [F.aXm, F.aXl, F.aXA, F.aYw, F.aYN, F.aZL]) {s : ByteArray} (hs : s.size ≤ maxLen) : D F.aZL [.leaf (.str s)] [] = some (aJ (aFE s.data.toList), []) := by
  refine hD _ (by simp) _ _ _ ?_
  have hn := aHS s
  have ht := aTQ s
  have htn := aHS (aFV s 45)
  have hle : (aFV s 45).size ≤ maxLen := by
    have : (aFV s 45).size ≤ s.size := by
      unfold aFV
      split
      · rw [ByteArray.size_extract]; omega
      · exact Nat.le_refl _
    omega
  rw [aNB, aQm (fun f hf => hD f (by simp at hf; rcases hf with h | h | h <;> simp [h])), aAm, aTV (fun f hf => hD f (by simp at hf; rcases hf with h | h <;> simp [h])) hle, bY]
  unfold aFE
  rw [hn, ← ht]
  by_cases h40 : s.size ≤ 40
  · have h40' : ((s.size : Nat) : Int) ≤ 40 := by omega
    simp -implicitDefEqProofs only [h40, h40', decide_true, bT, aD, Bool.true_and]
    cases hd : (aFV s 45).data.toList with
    | nil => simp
    | cons x r =>
      rw [hd] at htn
      have hpos : (0 : Int) < ((aFV s 45).size : Int) := by simp at htn; omega
      simp -implicitDefEqProofs only [ne_eq, List.cons_ne_nil, not_false_eq_true, decide_true, Bool.and_true, Bool.true_and]
      cases (x :: r).all rQ with
      | false => simp -implicitDefEqProofs only [aC, Bool.false_and]
      | true =>
        simp -implicitDefEqProofs only [aD, Bool.true_and, aS0, hd, hpos, decide_true, aH, bF, jN]
        cases r with
        | nil =>
          by_cases hx : x = 48
          · subst hx; simp
          · have h1 : (([x] : List UInt8) == (ByteArray.mk #[48]).data.toList) = false := by simp [hx]
            have h2 : ¬ x.toNat = 48 := fun h => hx (by rw [← UInt8.toNat_inj]; simpa using h)
            simp [h1]
            omega
        | cons y r =>
          have h1 : ((x :: y :: r : List UInt8) == (ByteArray.mk #[48]).data.toList) = false := by simp
          simp -implicitDefEqProofs only [h1, aC]
          simp
          congr 1
          rw [Bool.eq_iff_iff]
          simp
          omega
  · have h40' : ¬ ((s.size : Nat) : Int) ≤ 40 := by omega
    simp -implicitDefEqProofs only [h40, h40', decide_false, bT, aC, Bool.false_and]
end
end Go.Vs
end
section
namespace Go.Proofs
open Go.Shelf
def Tryz.laysC174_ren : Go.Shelf.Ren := ⟨fun | 174 => 226 | 247 => 233 | 245 => 234 | 287 => 238 | 279 => 239 | 280 => 240 | 281 => 241 | 282 => 242 | 321 => 245 | 322 => 246 | 316 => 247 | 171 => 249 | 205 => 248 | 243 => 250 | 246 => 251 | 283 => 252 | 284 => 253 | 285 => 254 | 286 => 255 | 129 => 257 | 317 => 256 | 318 => 258 | 319 => 259 | 320 => 260 | 337 => 261 | 338 => 262 | n => n, fun | 9 => 9 | 3 => 3 | 2 => 2 | 75 => 260 | 85 => 261 | 4 => 4 | 167 => 269 | 5 => 5 | 53 => 270 | 175 => 271 | 46 => 273 | 168 => 274 | 37 => 210 | 0 => 0 | 210 => 280 | 21 => 21 | 127 => 282 | 145 => 285 | 143 => 283 | 171 => 287 | 173 => 290 | 212 => 294 | 51 => 295 | 20 => 20 | 213 => 296 | 232 => 300 | 233 => 301 | 80 => 302 | n => n, fun | 15 => 0 | 16 => 1 | 17 => 2 | 18 => 3 | 19 => 4 | n => n⟩
theorem Tryz.laysC174 : Go.Proofs.LaysC.n174 Tryz.prog Tryz.laysC174_ren := {
  mixed := by kernel_rfl
  f129 := Tryz.func257.trans (congrArg some (by kernel_rfl))
  f171 := Tryz.func249.trans (congrArg some (by kernel_rfl))
  f174 := Tryz.func226.trans (congrArg some (by kernel_rfl))
  f205 := Tryz.func248.trans (congrArg some (by kernel_rfl))
  f243 := Tryz.func250.trans (congrArg some (by kernel_rfl))
  f245 := Tryz.func234.trans (congrArg some (by kernel_rfl))
  f246 := Tryz.func251.trans (congrArg some (by kernel_rfl))
  f247 := Tryz.func233.trans (congrArg some (by kernel_rfl))
  f279 := Tryz.func239.trans (congrArg some (by kernel_rfl))
  f280 := Tryz.func240.trans (congrArg some (by kernel_rfl))
  f281 := Tryz.func241.trans (congrArg some (by kernel_rfl))
  f282 := Tryz.func242.trans (congrArg some (by kernel_rfl))
  f283 := Tryz.func252.trans (congrArg some (by kernel_rfl))
  f284 := Tryz.func253.trans (congrArg some (by kernel_rfl))
  f285 := Tryz.func254.trans (congrArg some (by kernel_rfl))
  f286 := Tryz.func255.trans (congrArg some (by kernel_rfl))
  f287 := Tryz.func238.trans (congrArg some (by kernel_rfl))
  f316 := Tryz.func247.trans (congrArg some (by kernel_rfl))
  f317 := Tryz.func256.trans (congrArg some (by kernel_rfl))
  f318 := Tryz.func258.trans (congrArg some (by kernel_rfl))
  f319 := Tryz.func259.trans (congrArg some (by kernel_rfl))
  f320 := Tryz.func260.trans (congrArg some (by kernel_rfl))
  f321 := Tryz.func245.trans (congrArg some (by kernel_rfl))
  f322 := Tryz.func246.trans (congrArg some (by kernel_rfl))
  f337 := Tryz.func261.trans (congrArg some (by kernel_rfl))
  f338 := Tryz.func262.trans (congrArg some (by kernel_rfl))
  t0 := Tryz.underlying0
  a0 := Tryz.isAgg0
  z0 := Tryz.sizeOf0
  v0 := Tryz.zeroValue0
  t2 := Tryz.underlying2
  a2 := Tryz.isAgg2
  z2 := Tryz.sizeOf2
  v2 := Tryz.zeroValue2
  t3 := Tryz.underlying3
  a3 := Tryz.isAgg3
  z3 := Tryz.sizeOf3
  v3 := Tryz.zeroValue3
  t4 := Tryz.underlying4
  a4 := Tryz.isAgg4
  z4 := Tryz.sizeOf4
  v4 := Tryz.zeroValue4
  t5 := Tryz.underlying5
  a5 := Tryz.isAgg5
  z5 := Tryz.sizeOf5
  v5 := Tryz.zeroValue5
  t9 := Tryz.underlying9
  a9 := Tryz.isAgg9
  z9 := Tryz.sizeOf9
  v9 := Tryz.zeroValue9
  t20 := Tryz.underlying20
  a20 := Tryz.isAgg20
  z20 := Tryz.sizeOf20
  v20 := Tryz.zeroValue20
  t21 := Tryz.underlying21
  a21 := Tryz.isAgg21
  z21 := Tryz.sizeOf21
  v21 := Tryz.zeroValue21
  t37 := Tryz.underlying210
  a37 := Tryz.isAgg210
  z37 := Tryz.sizeOf210
  v37 := Tryz.zeroValue210
  t46 := Tryz.underlying273
  a46 := Tryz.isAgg273
  z46 := Tryz.sizeOf273
  v46 := Tryz.zeroValue273
  t51 := Tryz.underlying295
  a51 := Tryz.isAgg295
  z51 := Tryz.sizeOf295
  v51 := Tryz.zeroValue295
  t53 := Tryz.underlying270
  a53 := Tryz.isAgg270
  z53 := Tryz.sizeOf270
  v53 := Tryz.zeroValue270
  t75 := Tryz.underlying260
  a75 := Tryz.isAgg260
  z75 := Tryz.sizeOf260
  v75 := Tryz.zeroValue260
  t85 := Tryz.underlying261
  a85 := Tryz.isAgg261
  z85 := Tryz.sizeOf261
  v85 := Tryz.zeroValue261
  t127 := Tryz.underlying282
  a127 := Tryz.isAgg282
  z127 := Tryz.sizeOf282
  v127 := Tryz.zeroValue282
  t143 := Tryz.underlying283
  a143 := Tryz.isAgg283
  z143 := Tryz.sizeOf283
  v143 := Tryz.zeroValue283
  t145 := Tryz.underlying285
  a145 := Tryz.isAgg285
  z145 := Tryz.sizeOf285
  v145 := Tryz.zeroValue285
  t167 := Tryz.underlying269
  a167 := Tryz.isAgg269
  z167 := Tryz.sizeOf269
  v167 := Tryz.zeroValue269
  t168 := Tryz.underlying274
  a168 := Tryz.isAgg274
  z168 := Tryz.sizeOf274
  v168 := Tryz.zeroValue274
  t171 := Tryz.underlying287
  a171 := Tryz.isAgg287
  z171 := Tryz.sizeOf287
  v171 := Tryz.zeroValue287
  t173 := Tryz.underlying290
  a173 := Tryz.isAgg290
  z173 := Tryz.sizeOf290
  v173 := Tryz.zeroValue290
  t175 := Tryz.underlying271
  a175 := Tryz.isAgg271
  z175 := Tryz.sizeOf271
  v175 := Tryz.zeroValue271
  t210 := Tryz.underlying280
  a210 := Tryz.isAgg280
  z210 := Tryz.sizeOf280
  v210 := Tryz.zeroValue280
  t212 := Tryz.underlying294
  a212 := Tryz.isAgg294
  z212 := Tryz.sizeOf294
  v212 := Tryz.zeroValue294
  t213 := Tryz.underlying296
  a213 := Tryz.isAgg296
  z213 := Tryz.sizeOf296
  t232 := Tryz.underlying300
  a232 := Tryz.isAgg300
  z232 := Tryz.sizeOf300
  v232 := Tryz.zeroValue300
  t233 := Tryz.underlying301
  a233 := Tryz.isAgg301
  z233 := Tryz.sizeOf301
  v233 := Tryz.zeroValue301
  g15 := by kernel_rfl
  g16 := by kernel_rfl
  g17 := by kernel_rfl
  g18 := by kernel_rfl
  g19 := by kernel_rfl
  t80 := Tryz.underlying302
  a80 := Tryz.isAgg302
  z80 := Tryz.sizeOf302
  v80 := Tryz.zeroValue302
  i0 := by kernel_rfl
  i2 := by kernel_rfl
  i3 := by kernel_rfl
  i4 := by kernel_rfl
  i5 := by kernel_rfl
  i9 := by kernel_rfl
  i20 := by kernel_rfl
  i21 := by kernel_rfl
  i37 := by kernel_rfl
  i46 := by kernel_rfl
  i51 := by kernel_rfl
  i53 := by kernel_rfl
  i75 := by kernel_rfl
  i80 := by kernel_rfl
  i85 := by kernel_rfl
  i127 := by kernel_rfl
  i143 := by kernel_rfl
  i145 := by kernel_rfl
  i167 := by kernel_rfl
  i168 := by kernel_rfl
  i171 := by kernel_rfl
  i173 := by kernel_rfl
  i175 := by kernel_rfl
  i210 := by kernel_rfl
  i212 := by kernel_rfl
  i232 := by kernel_rfl
  i233 := by kernel_rfl
  m15 := by kernel_rfl
  m16 := by kernel_rfl
  m17 := by kernel_rfl
  m18 := by kernel_rfl
  m19 := by kernel_rfl
  c0 := by kernel_rfl
  c2 := by kernel_rfl
  c3 := by kernel_rfl
  c4 := by kernel_rfl
  c5 := by kernel_rfl
  c9 := by kernel_rfl
  c20 := by kernel_rfl
  c21 := by kernel_rfl
  c37 := by kernel_rfl
  c46 := by kernel_rfl
  c51 := by kernel_rfl
  c53 := by kernel_rfl
  c75 := by kernel_rfl
  c80 := by kernel_rfl
  c85 := by kernel_rfl
  c127 := by kernel_rfl
  c143 := by kernel_rfl
  c145 := by kernel_rfl
  c167 := by kernel_rfl
  c168 := by kernel_rfl
  c171 := by kernel_rfl
  c173 := by kernel_rfl
  c175 := by kernel_rfl
  c210 := by kernel_rfl
  c212 := by kernel_rfl
  c213 := by kernel_rfl
  c232 := by kernel_rfl
  c233 := by kernel_rfl }
open Go.RowKit in
theorem Tryz.strconv_ParseInt_10_at32_ok (s : ByteArray) (hmax : s.size ≤ 9223372036854775806) (v : Int) (h : Lib.parseIntB 32 s.data.toList = .ok v) (w : World) :
    Calls Tryz.prog 226 #[.string s, .int .i64 10, .int .i64 32] w fun e w' => e = .returned (.tuple #[.int .i64 v, .nilIface]) ∧ (w' = w ∨ ∃ t, w' = Lib.bytesWorld w 5 t) := Any.strconv_ParseInt_10_at32_ok Tryz.laysC174 s hmax v h w
open Go.RowKit in
theorem Tryz.strconv_ParseInt_10_at32_none (s : ByteArray) (hlim : s.size ≤ 281474976710656) (h : Lib.parseIntB 32 s.data.toList = Lib.parseIntB 32 []) (ev : Value) (w : World) (hv : w.cell? ⟨0, 0, none⟩ = some ev) (hev : ev = .nilIface ∨ ∃ te pe, ev = .iface te pe) :
    Calls Tryz.prog 226 #[.string s, .int .i64 10, .int .i64 32] w fun e w' => ∃ N, e = .returned (.tuple #[.int .i64 (0), .iface 274 (.pointer (some ⟨N, 0, none⟩))]) ∧ w.heap.size ≤ N ∧ w'.heap[N]? = some (.cells #[.string ⟨#[80, 97, 114, 115, 101, 73, 110, 116]⟩, .string s, ev] 280 (0, 0)) ∧ Below w.heap.size w w' := Any.strconv_ParseInt_10_at32_syntax Tryz.laysC174 s hlim (h.trans (by rfl)) ev w hv hev
open Go.RowKit in
theorem Tryz.strconv_ParseInt_10_at32_range (s : ByteArray) (hlim : s.size ≤ 281474976710656) (h : Lib.parseIntB 32 s.data.toList = .range) (ev : Value) (w : World) (hv : w.cell? ⟨1, 0, none⟩ = some ev) (hev : ev = .nilIface ∨ ∃ te pe, ev = .iface te pe) :
    Calls Tryz.prog 226 #[.string s, .int .i64 10, .int .i64 32] w fun e w' => ∃ N, e = .returned (.tuple #[.int .i64 (Lib.intSat 32 s.data.toList), .iface 274 (.pointer (some ⟨N, 0, none⟩))]) ∧ w.heap.size ≤ N ∧ w'.heap[N]? = some (.cells #[.string ⟨#[80, 97, 114, 115, 101, 73, 110, 116]⟩, .string s, ev] 280 (0, 0)) ∧ Below w.heap.size w w' := Any.strconv_ParseInt_10_at32_range Tryz.laysC174 s hlim h ev w hv hev
end Go.Proofs
end
section
namespace Go.Vs
open Go Go.Proofs Go.RowKit
def f32 (s : ByteArray) : Bool := okB s.data.toList
theorem zR {w w1 w2 : World} (h : Below w.heap.size w w1) (k : Below w1.heap.size w1 w2) : Below w.heap.size w w2 :=
  h.trans ⟨k.os, k.tape, k.output, k.size, fun j hj => k.block j (Nat.lt_of_lt_of_le hj h.size)⟩
theorem aQC {w w1 : World} {e : TypeId} (h : w1 = w ∨ ∃ t, w1 = Lib.bytesWorld w e t) : Below w.heap.size w w1 := by
  rcases h with rfl | ⟨t, rfl⟩
  · exact Below.refl _ _
  · exact Lib.bytesWorld_below w e t
set_option maxHeartbeats 1000000 in
set_option maxRecDepth 100000 in
theorem aQO (s : ByteArray) (hs : s.size ≤ 281474976710656) (ok : Bool) (ev0 ev1 : Value) (w : World) (hv0 : w.cell? ⟨0, 0, none⟩ = some ev0) (hv1 : w.cell? ⟨1, 0, none⟩ = some ev1)
    (he0 : ev0 = .nilIface ∨ ∃ te pe, ev0 = .iface te pe) (he1 : ev1 = .nilIface ∨ ∃ te pe, ev1 = .iface te pe)
    (hI : ∀ w1, Below w.heap.size w w1 → Calls Tryz.prog 227 #[.string s] w1 fun e w' => e = .returned (.bool ok) ∧ Below w1.heap.size w1 w') :
    Calls Tryz.prog 219 #[.string s] w fun e w' => e = .returned (.bool (ok && f32 s)) ∧ Below w.heap.size w w' := by
  cases h : Lib.parseIntB 32 s.data.toList with
  | ok v =>
    have hf : f32 s = true := by unfold f32 okB; rw [h]
    go_enter Tryz.func219, Tryz.ntmps219
    go_wp2_with (first
      | (go_at_call 226; refine (Tryz.strconv_ParseInt_10_at32_ok s (by omega) v h _).mono ?_; rintro e w1 ⟨rfl, hw⟩; have hb1 : Below w.heap.size w w1 := aQC hw)
      | (go_at_call 227; refine (hI _ hb1).mono ?_; rintro e w2 ⟨rfl, hb⟩))
    · go_ret; exact ⟨by simp_all, zR hb1 hb⟩
    · go_ret; exact ⟨by simp_all, zR hb1 hb⟩
  | range =>
    have hf : f32 s = false := by unfold f32 okB; rw [h]
    go_enter Tryz.func219, Tryz.ntmps219
    go_wp2_with (first
      | (go_at_call 226; refine (Tryz.strconv_ParseInt_10_at32_range s hs h ev1 _ hv1 he1).mono ?_; rintro e w1 ⟨N, rfl, _, _, hb1⟩)
      | (go_at_call 227; refine (hI _ hb1).mono ?_; rintro e w2 ⟨rfl, hb⟩))
    · go_ret; exact ⟨by simp_all, zR hb1 hb⟩
    · go_ret; exact ⟨by simp_all, zR hb1 hb⟩
  | _ =>
    have hf : f32 s = false := by unfold f32 okB; rw [h]
    go_enter Tryz.func219, Tryz.ntmps219
    go_wp2_with (first
      | (go_at_call 226; refine (Tryz.strconv_ParseInt_10_at32_none s hs (h.trans (by rfl)) ev0 _ hv0 he0).mono ?_; rintro e w1 ⟨N, rfl, _, _, hb1⟩)
      | (go_at_call 227; refine (hI _ hb1).mono ?_; rintro e w2 ⟨rfl, hb⟩))
    · go_ret; exact ⟨by simp_all, zR hb1 hb⟩
    · go_ret; exact ⟨by simp_all, zR hb1 hb⟩
end Go.Vs
end
section
open Go Go.Vs Go.Proofs
set_option linter.unusedVariables false
set_option linter.unusedSimpArgs false
namespace Go.Vs
noncomputable abbrev Dn0 : cD false := den Tryz.prog (fun _ => none) Hs
theorem aVC (l : List FuncId) : aOv Dn0 l := fun f _ a b r h => aNC rfl h
theorem hP : Tryz.prog.follows .mixedOrders = true := by kernel_rfl
theorem hG : Tryz.prog.funcs.all (fun fn => !(fn.name == "runtime.NumGoroutine")) = true := by kernel_rfl
def aRk : List (SV false) → List (List (SV false)) → Ret false
  | [.leaf (.str s)], [] => if s.size ≤ 281474976710656 then some (aJ (aFE s.data.toList && f32 s), []) else none
  | _, _ => none
def aVz : aMq false := fun f => if f = F.aZE then some aRk else none
def KOf (ev0 ev1 : Value) : aBc := [((0, 0), ev0), ((1, 0), ev1)]
def zB (v : Value) : Prop := v = .nilIface ∨ ∃ te pe, v = .iface te pe
theorem aWU : ∃ fn, Tryz.prog.funcs[F.aZE]? = some fn ∧ (fn.name == "runtime.NumGoroutine") = false ∧ fn.body.isNone = false := ⟨_, Tryz.func219, by kernel_rfl, by kernel_rfl⟩
theorem aSd {N : Env} {ev0 ev1 : Value} (hN : N.K = KOf ev0 ev1) (he0 : zB ev0) (he1 : zB ev1) : aOm Tryz.prog N aVz := by
  intro f t ht g args boxes r hr hh hf
  unfold aVz at ht
  split at ht
  · rename_i hff
    subst hff
    simp -implicitDefEqProofs only [Option.some.injEq] at ht
    subst ht
    replace hr : (if g = F.aZE then aRk args boxes else none) = some r := hr
    split at hr
    · rename_i hg
      subst hg
      unfold aRk at hr
      split at hr
      · rename_i s
        split at hr
        · rename_i hs
          simp -implicitDefEqProofs only [Option.some.injEq] at hr
          subst hr
          refine ⟨rfl, rfl, fun cs hcs => by simp at hcs, aWU, fun w F1 Ow bm vals hI => ?_⟩
          obtain rfl := aVG hI
          have k0 := hI.low.know ((0, 0), ev0) (by rw [hN]; simp [KOf])
          have k1 := hI.low.know ((1, 0), ev1) (by rw [hN]; simp [KOf])
          refine (aQO s hs (aFE s.data.toList) ev0 ev1 w k0.2.2 k1.2.2 he0 he1 fun w1 _ => ?_).mono fun e w' ⟨he, hb⟩ => ?_
          · have hD : nW Tryz.prog (N0 w1 []) Dn0 := aKL hP hG aQT Hs
            have hm : (281474976710656 : Nat) ≤ maxLen := by decide
            have hc : Dn0 F.aZL [.leaf (.str s)] [] = some (aJ (aFE s.data.toList), []) := aVf (aVC _) (Nat.le_trans hs hm)
            refine (aTA (K := []) hD hc rfl (vals := #[.string s]) rfl (fun j a v ha hv => ?_)).mono fun e w2 ⟨v, F', Ow', bm', al, he, hv, hb⟩ => ?_
            · cases j with
              | zero =>
                simp -implicitDefEqProofs only [List.getElem?_cons_zero, Option.some.injEq] at ha
                subst ha
                have : v = .string s := by simpa using hv.symm
                subst this
                exact bD.leaf (eW.str s)
              | succ j => simp at ha
            · have h2 : eW w2 F' (N0 w1 []) (aF.bool (aFE s.data.toList) : aF false) v := by simpa [bD, eP] using hv
              cases h2
              exact ⟨he, hb⟩
          · exact ⟨_, F1, Ow, he, aTM hI hb (eW.bool _), aTy hI hb⟩
        · simp at hr
      · simp at hr
    · simp at hr
  · simp at ht
end Go.Vs
end
section
set_option linter.unusedVariables false
namespace Go.Vs
mutual
def bdF (B : Nat) : aF false → Prop
  | .str s => s.size ≤ B
  | .sl _ es => es.length ≤ B ∧ bdE B es
  | _ => True
def bdL (B : Nat) : List (aF false) → Prop
  | [] => True
  | l :: r => bdF B l ∧ bdL B r
def bdE (B : Nat) : List (List (aF false)) → Prop
  | [] => True
  | e :: es => bdL B e ∧ bdE B es
end
theorem yB {B : Nat} : ∀ {es : List (List (aF false))}, bdE B es → ∀ e ∈ es, bdL B e
  | x :: r, h, e, he => by
    rw [bdE] at h
    rcases List.mem_cons.1 he with rfl | he
    · exact h.1
    · exact yB h.2 e he
mutual
theorem aWi {z B : Nat} (hB : (B : Int) ≤ cap) : ∀ (l : aF false) (n : Int), okF z l → 0 ≤ n → n ≤ B → 0 ≤ szF l n → bdF B l
  | .str s, n, ho, h0, hn, h => by
    have hm : maxLen = 9223372036854775807 := rfl
    simp only [okF] at ho
    simp only [szF, bdF, cap] at *
    rw [rM (by omega) (by omega)] at h
    split at h <;> omega
  | .sl _ es, n, ho, h0, hn, h => by
    have hm : maxLen = 9223372036854775807 := rfl
    simp only [okF] at ho
    simp only [szF, bdF] at *
    rw [rM (by simp only [cap] at hB; omega) (by simp only [cap] at hB; omega)] at h
    by_cases hl : n - (es.length : Int) < 0
    · simp [hl] at h
    · simp only [hl, if_false] at h
      exact ⟨by omega, aUg hB es _ ho.2 (by omega) (by omega) h⟩
  | .bool _, n, _, _, _, _ => by simp [bdF]
  | .int _ _, n, _, _, _, _ => by simp [bdF]
  | .unk, n, _, _, _, _ => by simp [bdF]
  | .nl _, n, _, _, _, _ => by simp [bdF]
theorem aSs {z B : Nat} (hB : (B : Int) ≤ cap) : ∀ (l : List (aF false)) (n : Int), okL z l → 0 ≤ n → n ≤ B → 0 ≤ szL l n → bdL B l
  | [], n, _, _, _, _ => by simp [bdL]
  | l :: r, n, ho, h0, hn, h => by
    simp only [okL] at ho
    simp only [szL, bdL] at *
    by_cases hl : szF l n < 0
    · simp [hl] at h
    · simp only [hl, if_false] at h
      have h1 := aVR l n ho.1 h0 (by omega) (by omega)
      exact ⟨aWi hB l n ho.1 h0 hn (by omega), aSs hB r _ ho.2 (by omega) (by omega) h⟩
theorem aUg {z B : Nat} (hB : (B : Int) ≤ cap) : ∀ (l : List (List (aF false))) (n : Int), okE z l → 0 ≤ n → n ≤ B → 0 ≤ szE l n → bdE B l
  | [], n, _, _, _, _ => by simp [bdE]
  | e :: r, n, ho, h0, hn, h => by
    simp only [okE] at ho
    simp only [szE, bdE] at *
    by_cases hl : szL e n < 0
    · simp [hl] at h
    · simp only [hl, if_false] at h
      have h1 := aS1 e n ho.2.1 h0 (by omega) (by omega)
      exact ⟨aSs hB e n ho.2.1 h0 hn (by omega), aUg hB r _ ho.2.2 (by omega) (by omega) h⟩
end
end Go.Vs
end
section
open Go Go.Vs Go.Proofs
set_option linter.unusedVariables false
set_option linter.unusedSimpArgs false
namespace Go.Vs
noncomputable abbrev Dn : cD false := den Go.Proofs.Tryz.prog aVz Hs
theorem aQ {f : FuncId} {a : List (SV false)} {b : List (List (SV false))} {r : SV false × List (List (SV false))} (h : aU Go.Proofs.Tryz.prog Dn Hs bN f a b = some r) (hf : aVz f = none := by rfl) : Dn f a b = some r :=
  aNC hf h
inductive oX : List (aF false) → Prop
  | mk (s0 : ByteArray) (s1 : ByteArray) (h0 : s0.size ≤ maxLen) (h1 : s1.size ≤ maxLen) : oX [.str s0, .str s1]
theorem oX.ex {ls : List (aF false)} (h : oX ls) : ∃ (s0 : ByteArray) (s1 : ByteArray), ls = [.str s0, .str s1] ∧ s0.size ≤ maxLen ∧ s1.size ≤ maxLen := by
  cases h with
  | mk s0 s1 h0 h1 => exact ⟨s0, s1, rfl, h0, h1⟩
theorem oX.len {ls : List (aF false)} (h : oX ls) : ls.length = 2 := by cases h; rfl
theorem oX.ok {ls : List (aF false)} (h : oX ls) : okL 16 ls := by
  cases h with
  | mk s0 s1 h0 h1 => simp only [okL, okF]; exact ⟨h0, h1, trivial⟩
inductive dB : List (aF false) → Prop
  | mk (i0 : Int) (s1 : ByteArray) (e2 : List (List (aF false))) (e3 : List (List (aF false))) (h1 : s1.size ≤ maxLen) (h2 : e2.length ≤ maxLen) (q2 : ∀ e ∈ e2, dB e) (h3 : e3.length ≤ maxLen) (q3 : ∀ e ∈ e3, lZ e) : dB [.int .i64 i0, .str s1, .sl fP e2, .sl fP e3]
theorem dB.ex {ls : List (aF false)} (h : dB ls) : ∃ (i0 : Int) (s1 : ByteArray) (e2 : List (List (aF false))) (e3 : List (List (aF false))), ls = [.int .i64 i0, .str s1, .sl fP e2, .sl fP e3] ∧ s1.size ≤ maxLen ∧ e2.length ≤ maxLen ∧ (∀ e ∈ e2, dB e) ∧ e3.length ≤ maxLen ∧ (∀ e ∈ e3, lZ e) := by
  cases h with
  | mk i0 s1 e2 e3 h1 h2 q2 h3 q3 => exact ⟨i0, s1, e2, e3, rfl, h1, h2, q2, h3, q3⟩
theorem dB.len {ls : List (aF false)} (h : dB ls) : ls.length = 4 := by cases h; rfl
theorem dB.ok {ls : List (aF false)} (h : dB ls) : okL 16 ls := by
  induction h with
  | mk i0 s1 e2 e3 h1 h2 q2 h3 q3 ih2 => simp only [okL, okF]; exact ⟨trivial, h1, ⟨h2, oW fun e he => ⟨by have := (q2 e he).len; omega, ih2 e he⟩⟩, ⟨h3, oW fun e he => ⟨by have := (q3 e he).len; omega, (q3 e he).ok⟩⟩, trivial⟩
inductive lM : List (aF false) → Prop
  | mk (s0 : ByteArray) (i1 : Int) (s2 : ByteArray) (e3 : List (List (aF false))) (e4 : List (List (aF false))) (h0 : s0.size ≤ maxLen) (h2 : s2.size ≤ maxLen) (h3 : e3.length ≤ maxLen) (q3 : ∀ e ∈ e3, dB e) (h4 : e4.length ≤ maxLen) (q4 : ∀ e ∈ e4, lZ e) : lM [.str s0, .int .i64 i1, .str s2, .sl fP e3, .sl fP e4]
theorem lM.ex {ls : List (aF false)} (h : lM ls) : ∃ (s0 : ByteArray) (i1 : Int) (s2 : ByteArray) (e3 : List (List (aF false))) (e4 : List (List (aF false))), ls = [.str s0, .int .i64 i1, .str s2, .sl fP e3, .sl fP e4] ∧ s0.size ≤ maxLen ∧ s2.size ≤ maxLen ∧ e3.length ≤ maxLen ∧ (∀ e ∈ e3, dB e) ∧ e4.length ≤ maxLen ∧ (∀ e ∈ e4, lZ e) := by
  cases h with
  | mk s0 i1 s2 e3 e4 h0 h2 h3 q3 h4 q4 => exact ⟨s0, i1, s2, e3, e4, rfl, h0, h2, h3, q3, h4, q4⟩
theorem lM.len {ls : List (aF false)} (h : lM ls) : ls.length = 5 := by cases h; rfl
theorem lM.ok {ls : List (aF false)} (h : lM ls) : okL 16 ls := by
  cases h with
  | mk s0 i1 s2 e3 e4 h0 h2 h3 q3 h4 q4 => simp only [okL, okF]; exact ⟨h0, trivial, h2, ⟨h3, oW fun e he => ⟨by have := (q3 e he).len; omega, (q3 e he).ok⟩⟩, ⟨h4, oW fun e he => ⟨by have := (q4 e he).len; omega, (q4 e he).ok⟩⟩, trivial⟩
inductive hQ : List (aF false) → Prop
  | mk (s0 : ByteArray) (e1 : List (List (aF false))) (h0 : s0.size ≤ maxLen) (h1 : e1.length ≤ maxLen) (q1 : ∀ e ∈ e1, lM e) : hQ [.str s0, .sl fP e1]
theorem hQ.ex {ls : List (aF false)} (h : hQ ls) : ∃ (s0 : ByteArray) (e1 : List (List (aF false))), ls = [.str s0, .sl fP e1] ∧ s0.size ≤ maxLen ∧ e1.length ≤ maxLen ∧ (∀ e ∈ e1, lM e) := by
  cases h with
  | mk s0 e1 h0 h1 q1 => exact ⟨s0, e1, rfl, h0, h1, q1⟩
theorem hQ.len {ls : List (aF false)} (h : hQ ls) : ls.length = 2 := by cases h; rfl
theorem hQ.ok {ls : List (aF false)} (h : hQ ls) : okL 16 ls := by
  cases h with
  | mk s0 e1 h0 h1 q1 => simp only [okL, okF]; exact ⟨h0, ⟨h1, oW fun e he => ⟨by have := (q1 e he).len; omega, (q1 e he).ok⟩⟩, trivial⟩
inductive dF : List (aF false) → Prop
  | mk (s0 : ByteArray) (s1 : ByteArray) (s2 : ByteArray) (s3 : ByteArray) (b4 : Bool) (i5 : Int) (s6 : ByteArray) (e7 : List (List (aF false))) (e8 : List (List (aF false))) (e9 : List (List (aF false))) (h0 : s0.size ≤ maxLen) (h1 : s1.size ≤ maxLen) (h2 : s2.size ≤ maxLen) (h3 : s3.size ≤ maxLen) (h6 : s6.size ≤ maxLen) (h7 : e7.length ≤ maxLen) (q7 : ∀ e ∈ e7, dB e) (h8 : e8.length ≤ maxLen) (q8 : ∀ e ∈ e8, lZ e) (h9 : e9.length ≤ maxLen) (q9 : ∀ e ∈ e9, hQ e) : dF [.str s0, .str s1, .str s2, .str s3, .bool b4, .int .i64 i5, .str s6, .sl fP e7, .sl fP e8, .sl fP e9]
theorem dF.ex {ls : List (aF false)} (h : dF ls) : ∃ (s0 : ByteArray) (s1 : ByteArray) (s2 : ByteArray) (s3 : ByteArray) (b4 : Bool) (i5 : Int) (s6 : ByteArray) (e7 : List (List (aF false))) (e8 : List (List (aF false))) (e9 : List (List (aF false))), ls = [.str s0, .str s1, .str s2, .str s3, .bool b4, .int .i64 i5, .str s6, .sl fP e7, .sl fP e8, .sl fP e9] ∧ s0.size ≤ maxLen ∧ s1.size ≤ maxLen ∧ s2.size ≤ maxLen ∧ s3.size ≤ maxLen ∧ s6.size ≤ maxLen ∧ e7.length ≤ maxLen ∧ (∀ e ∈ e7, dB e) ∧ e8.length ≤ maxLen ∧ (∀ e ∈ e8, lZ e) ∧ e9.length ≤ maxLen ∧ (∀ e ∈ e9, hQ e) := by
  cases h with
  | mk s0 s1 s2 s3 b4 i5 s6 e7 e8 e9 h0 h1 h2 h3 h6 h7 q7 h8 q8 h9 q9 => exact ⟨s0, s1, s2, s3, b4, i5, s6, e7, e8, e9, rfl, h0, h1, h2, h3, h6, h7, q7, h8, q8, h9, q9⟩
theorem dF.len {ls : List (aF false)} (h : dF ls) : ls.length = 10 := by cases h; rfl
theorem dF.ok {ls : List (aF false)} (h : dF ls) : okL 16 ls := by
  cases h with
  | mk s0 s1 s2 s3 b4 i5 s6 e7 e8 e9 h0 h1 h2 h3 h6 h7 q7 h8 q8 h9 q9 => simp only [okL, okF]; exact ⟨h0, h1, h2, h3, trivial, trivial, h6, ⟨h7, oW fun e he => ⟨by have := (q7 e he).len; omega, (q7 e he).ok⟩⟩, ⟨h8, oW fun e he => ⟨by have := (q8 e he).len; omega, (q8 e he).ok⟩⟩, ⟨h9, oW fun e he => ⟨by have := (q9 e he).len; omega, (q9 e he).ok⟩⟩, trivial⟩
inductive cK : List (aF false) → Prop
  | mk (s0 : ByteArray) (s1 : ByteArray) (e2 : List (List (aF false))) (s3 : ByteArray) (s4 : ByteArray) (e5 : List (List (aF false))) (h0 : s0.size ≤ maxLen) (h1 : s1.size ≤ maxLen) (h2 : e2.length ≤ maxLen) (q2 : ∀ e ∈ e2, dF e) (h3 : s3.size ≤ maxLen) (h4 : s4.size ≤ maxLen) (h5 : e5.length ≤ maxLen) (q5 : ∀ e ∈ e5, hQ e) : cK [.str s0, .str s1, .sl fP e2, .str s3, .str s4, .sl fP e5]
theorem cK.ex {ls : List (aF false)} (h : cK ls) : ∃ (s0 : ByteArray) (s1 : ByteArray) (e2 : List (List (aF false))) (s3 : ByteArray) (s4 : ByteArray) (e5 : List (List (aF false))), ls = [.str s0, .str s1, .sl fP e2, .str s3, .str s4, .sl fP e5] ∧ s0.size ≤ maxLen ∧ s1.size ≤ maxLen ∧ e2.length ≤ maxLen ∧ (∀ e ∈ e2, dF e) ∧ s3.size ≤ maxLen ∧ s4.size ≤ maxLen ∧ e5.length ≤ maxLen ∧ (∀ e ∈ e5, hQ e) := by
  cases h with
  | mk s0 s1 e2 s3 s4 e5 h0 h1 h2 q2 h3 h4 h5 q5 => exact ⟨s0, s1, e2, s3, s4, e5, rfl, h0, h1, h2, q2, h3, h4, h5, q5⟩
theorem cK.len {ls : List (aF false)} (h : cK ls) : ls.length = 6 := by cases h; rfl
theorem cK.ok {ls : List (aF false)} (h : cK ls) : okL 16 ls := by
  cases h with
  | mk s0 s1 e2 s3 s4 e5 h0 h1 h2 q2 h3 h4 h5 q5 => simp only [okL, okF]; exact ⟨h0, h1, ⟨h2, oW fun e he => ⟨by have := (q2 e he).len; omega, (q2 e he).ok⟩⟩, h3, h4, ⟨h5, oW fun e he => ⟨by have := (q5 e he).len; omega, (q5 e he).ok⟩⟩, trivial⟩
inductive cZ : List (aF false) → Prop
  | mk (s0 : ByteArray) (s1 : ByteArray) (e2 : List (List (aF false))) (h0 : s0.size ≤ maxLen) (h1 : s1.size ≤ maxLen) (h2 : e2.length ≤ maxLen) (q2 : ∀ e ∈ e2, hQ e) : cZ [.str s0, .str s1, .sl fP e2]
theorem cZ.ex {ls : List (aF false)} (h : cZ ls) : ∃ (s0 : ByteArray) (s1 : ByteArray) (e2 : List (List (aF false))), ls = [.str s0, .str s1, .sl fP e2] ∧ s0.size ≤ maxLen ∧ s1.size ≤ maxLen ∧ e2.length ≤ maxLen ∧ (∀ e ∈ e2, hQ e) := by
  cases h with
  | mk s0 s1 e2 h0 h1 h2 q2 => exact ⟨s0, s1, e2, rfl, h0, h1, h2, q2⟩
theorem cZ.len {ls : List (aF false)} (h : cZ ls) : ls.length = 3 := by cases h; rfl
theorem cZ.ok {ls : List (aF false)} (h : cZ ls) : okL 16 ls := by
  cases h with
  | mk s0 s1 e2 h0 h1 h2 q2 => simp only [okL, okF]; exact ⟨h0, h1, ⟨h2, oW fun e he => ⟨by have := (q2 e he).len; omega, (q2 e he).ok⟩⟩, trivial⟩
inductive eV : List (aF false) → Prop
  | mk (i0 : Int) (s1 : ByteArray) (h1 : s1.size ≤ maxLen) : eV [.int .i64 i0, .str s1]
theorem eV.ex {ls : List (aF false)} (h : eV ls) : ∃ (i0 : Int) (s1 : ByteArray), ls = [.int .i64 i0, .str s1] ∧ s1.size ≤ maxLen := by
  cases h with
  | mk i0 s1 h1 => exact ⟨i0, s1, rfl, h1⟩
theorem eV.len {ls : List (aF false)} (h : eV ls) : ls.length = 2 := by cases h; rfl
theorem eV.ok {ls : List (aF false)} (h : eV ls) : okL 16 ls := by
  cases h with
  | mk i0 s1 h1 => simp only [okL, okF]; exact ⟨trivial, h1, trivial⟩
inductive eA : List (aF false) → Prop
  | mk (i0 : Int) (b1 : Bool) (s2 : ByteArray) (s3 : ByteArray) (e4 : List (List (aF false))) (e5 : List (List (aF false))) (e6 : List (List (aF false))) (e7 : List (List (aF false))) (e8 : List (List (aF false))) (b9 : Bool) (e10 : List (List (aF false))) (h2 : s2.size ≤ maxLen) (h3 : s3.size ≤ maxLen) (h4 : e4.length ≤ maxLen) (q4 : ∀ e ∈ e4, lZ e) (h5 : e5.length ≤ maxLen) (q5 : ∀ e ∈ e5, cK e) (h6 : e6.length ≤ maxLen) (q6 : ∀ e ∈ e6, dF e) (h7 : e7.length ≤ maxLen) (q7 : ∀ e ∈ e7, cZ e) (h8 : e8.length ≤ maxLen) (q8 : ∀ e ∈ e8, eV e) (h10 : e10.length ≤ maxLen) (q10 : ∀ e ∈ e10, hQ e) : eA [.int .i64 i0, .bool b1, .str s2, .str s3, .sl fP e4, .sl fP e5, .sl fP e6, .sl fP e7, .sl fP e8, .bool b9, .sl fP e10]
theorem eA.ex {ls : List (aF false)} (h : eA ls) : ∃ (i0 : Int) (b1 : Bool) (s2 : ByteArray) (s3 : ByteArray) (e4 : List (List (aF false))) (e5 : List (List (aF false))) (e6 : List (List (aF false))) (e7 : List (List (aF false))) (e8 : List (List (aF false))) (b9 : Bool) (e10 : List (List (aF false))), ls = [.int .i64 i0, .bool b1, .str s2, .str s3, .sl fP e4, .sl fP e5, .sl fP e6, .sl fP e7, .sl fP e8, .bool b9, .sl fP e10] ∧ s2.size ≤ maxLen ∧ s3.size ≤ maxLen ∧ e4.length ≤ maxLen ∧ (∀ e ∈ e4, lZ e) ∧ e5.length ≤ maxLen ∧ (∀ e ∈ e5, cK e) ∧ e6.length ≤ maxLen ∧ (∀ e ∈ e6, dF e) ∧ e7.length ≤ maxLen ∧ (∀ e ∈ e7, cZ e) ∧ e8.length ≤ maxLen ∧ (∀ e ∈ e8, eV e) ∧ e10.length ≤ maxLen ∧ (∀ e ∈ e10, hQ e) := by
  cases h with
  | mk i0 b1 s2 s3 e4 e5 e6 e7 e8 b9 e10 h2 h3 h4 q4 h5 q5 h6 q6 h7 q7 h8 q8 h10 q10 => exact ⟨i0, b1, s2, s3, e4, e5, e6, e7, e8, b9, e10, rfl, h2, h3, h4, q4, h5, q5, h6, q6, h7, q7, h8, q8, h10, q10⟩
theorem eA.len {ls : List (aF false)} (h : eA ls) : ls.length = 11 := by cases h; rfl
theorem eA.ok {ls : List (aF false)} (h : eA ls) : okL 16 ls := by
  cases h with
  | mk i0 b1 s2 s3 e4 e5 e6 e7 e8 b9 e10 h2 h3 h4 q4 h5 q5 h6 q6 h7 q7 h8 q8 h10 q10 => simp only [okL, okF]; exact ⟨trivial, trivial, h2, h3, ⟨h4, oW fun e he => ⟨by have := (q4 e he).len; omega, (q4 e he).ok⟩⟩, ⟨h5, oW fun e he => ⟨by have := (q5 e he).len; omega, (q5 e he).ok⟩⟩, ⟨h6, oW fun e he => ⟨by have := (q6 e he).len; omega, (q6 e he).ok⟩⟩, ⟨h7, oW fun e he => ⟨by have := (q7 e he).len; omega, (q7 e he).ok⟩⟩, ⟨h8, oW fun e he => ⟨by have := (q8 e he).len; omega, (q8 e he).ok⟩⟩, trivial, ⟨h10, oW fun e he => ⟨by have := (q10 e he).len; omega, (q10 e he).ok⟩⟩, trivial⟩
inductive bL : List (aF false) → Prop
  | mk (e0 : List (List (aF false))) (e1 : List (List (aF false))) (e2 : List (List (aF false))) (h0 : e0.length ≤ maxLen) (q0 : ∀ e ∈ e0, eA e) (h1 : e1.length ≤ maxLen) (q1 : ∀ e ∈ e1, eA e) (h2 : e2.length ≤ maxLen) (q2 : ∀ e ∈ e2, eV e) : bL [.sl fP e0, .sl fP e1, .sl fP e2]
theorem bL.ex {ls : List (aF false)} (h : bL ls) : ∃ (e0 : List (List (aF false))) (e1 : List (List (aF false))) (e2 : List (List (aF false))), ls = [.sl fP e0, .sl fP e1, .sl fP e2] ∧ e0.length ≤ maxLen ∧ (∀ e ∈ e0, eA e) ∧ e1.length ≤ maxLen ∧ (∀ e ∈ e1, eA e) ∧ e2.length ≤ maxLen ∧ (∀ e ∈ e2, eV e) := by
  cases h with
  | mk e0 e1 e2 h0 q0 h1 q1 h2 q2 => exact ⟨e0, e1, e2, rfl, h0, q0, h1, q1, h2, q2⟩
theorem bL.len {ls : List (aF false)} (h : bL ls) : ls.length = 3 := by cases h; rfl
theorem bL.ok {ls : List (aF false)} (h : bL ls) : okL 16 ls := by
  cases h with
  | mk e0 e1 e2 h0 q0 h1 q1 h2 q2 => simp only [okL, okF]; exact ⟨⟨h0, oW fun e he => ⟨by have := (q0 e he).len; omega, (q0 e he).ok⟩⟩, ⟨h1, oW fun e he => ⟨by have := (q1 e he).len; omega, (q1 e he).ok⟩⟩, ⟨h2, oW fun e he => ⟨by have := (q2 e he).len; omega, (q2 e he).ok⟩⟩, trivial⟩
inductive dP : List (aF false) → Prop
  | mk (i0 : Int) (s1 : ByteArray) (s2 : ByteArray)  : dP [.int .i64 i0, .str s1, .str s2]
theorem dP.ex {ls : List (aF false)} (h : dP ls) : ∃ (i0 : Int) (s1 : ByteArray) (s2 : ByteArray), ls = [.int .i64 i0, .str s1, .str s2] := by
  cases h with
  | mk i0 s1 s2  => exact ⟨i0, s1, s2, rfl⟩
theorem dP.len {ls : List (aF false)} (h : dP ls) : ls.length = 3 := by cases h; rfl
theorem oX.st {e : El} (h : oX e) : ∃ x : dR, e = x.l ∧ oX x.l := by
  cases h with
  | mk s0 s1 h0 h1 => exact ⟨⟨s0, s1⟩, rfl, .mk s0 s1 h0 h1⟩
theorem oX.of {e : El} (h : oX e) : (dR.of e).l = e := by obtain ⟨x, rfl, _⟩ := h.st; rfl
theorem oX.nosl {e : El} (h : oX e) : e.all aTF = true := by obtain ⟨x, rfl, _⟩ := h.st; rfl
theorem oX.p {x : dR} (h : oX x.l) : (x.a0.size ≤ maxLen) ∧ (x.a1.size ≤ maxLen) := by
  obtain ⟨s0, s1⟩ := x
  have h1 : oX [.str s0, .str s1] := h
  cases h1 with
  | mk _ _ h0 h1 => exact ⟨h0, h1⟩
theorem dB.st {e : El} (h : dB e) : ∃ x : cX, e = x.l ∧ dB x.l := by
  cases h with
  | mk i0 s1 e2 e3 h1 h2 q2 h3 q3 => exact ⟨⟨i0, s1, e2, e3⟩, rfl, .mk i0 s1 e2 e3 h1 h2 q2 h3 q3⟩
theorem dB.of {e : El} (h : dB e) : (cX.of e).l = e := by obtain ⟨x, rfl, _⟩ := h.st; rfl
theorem dB.p {x : cX} (h : dB x.l) : (x.a1.size ≤ maxLen) ∧ (x.a2.length ≤ maxLen) ∧ (∀ e ∈ x.a2, dB e) ∧ (x.a3.length ≤ maxLen) ∧ (∀ e ∈ x.a3, lZ e) := by
  obtain ⟨i0, s1, e2, e3⟩ := x
  have h1 : dB [.int .i64 i0, .str s1, .sl fP e2, .sl fP e3] := h
  cases h1 with
  | mk _ _ _ _ h1 h2 q2 h3 q3 => exact ⟨h1, h2, q2, h3, q3⟩
theorem lM.st {e : El} (h : lM e) : ∃ x : gL, e = x.l ∧ lM x.l := by
  cases h with
  | mk s0 i1 s2 e3 e4 h0 h2 h3 q3 h4 q4 => exact ⟨⟨s0, i1, s2, e3, e4⟩, rfl, .mk s0 i1 s2 e3 e4 h0 h2 h3 q3 h4 q4⟩
theorem lM.of {e : El} (h : lM e) : (gL.of e).l = e := by obtain ⟨x, rfl, _⟩ := h.st; rfl
theorem lM.p {x : gL} (h : lM x.l) : (x.a0.size ≤ maxLen) ∧ (x.a2.size ≤ maxLen) ∧ (x.a3.length ≤ maxLen) ∧ (∀ e ∈ x.a3, dB e) ∧ (x.a4.length ≤ maxLen) ∧ (∀ e ∈ x.a4, lZ e) := by
  obtain ⟨s0, i1, s2, e3, e4⟩ := x
  have h1 : lM [.str s0, .int .i64 i1, .str s2, .sl fP e3, .sl fP e4] := h
  cases h1 with
  | mk _ _ _ _ _ h0 h2 h3 q3 h4 q4 => exact ⟨h0, h2, h3, q3, h4, q4⟩
theorem hQ.st {e : El} (h : hQ e) : ∃ x : yZ, e = x.l ∧ hQ x.l := by
  cases h with
  | mk s0 e1 h0 h1 q1 => exact ⟨⟨s0, e1⟩, rfl, .mk s0 e1 h0 h1 q1⟩
theorem hQ.of {e : El} (h : hQ e) : (yZ.of e).l = e := by obtain ⟨x, rfl, _⟩ := h.st; rfl
theorem hQ.p {x : yZ} (h : hQ x.l) : (x.a0.size ≤ maxLen) ∧ (x.a1.length ≤ maxLen) ∧ (∀ e ∈ x.a1, lM e) := by
  obtain ⟨s0, e1⟩ := x
  have h1 : hQ [.str s0, .sl fP e1] := h
  cases h1 with
  | mk _ _ h0 h1 q1 => exact ⟨h0, h1, q1⟩
theorem dF.st {e : El} (h : dF e) : ∃ x : bC, e = x.l ∧ dF x.l := by
  cases h with
  | mk s0 s1 s2 s3 b4 i5 s6 e7 e8 e9 h0 h1 h2 h3 h6 h7 q7 h8 q8 h9 q9 => exact ⟨⟨s0, s1, s2, s3, b4, i5, s6, e7, e8, e9⟩, rfl, .mk s0 s1 s2 s3 b4 i5 s6 e7 e8 e9 h0 h1 h2 h3 h6 h7 q7 h8 q8 h9 q9⟩
theorem dF.of {e : El} (h : dF e) : (bC.of e).l = e := by obtain ⟨x, rfl, _⟩ := h.st; rfl
theorem dF.p {x : bC} (h : dF x.l) : (x.a0.size ≤ maxLen) ∧ (x.a1.size ≤ maxLen) ∧ (x.a2.size ≤ maxLen) ∧ (x.a3.size ≤ maxLen) ∧ (x.a6.size ≤ maxLen) ∧ (x.a7.length ≤ maxLen) ∧ (∀ e ∈ x.a7, dB e) ∧ (x.a8.length ≤ maxLen) ∧ (∀ e ∈ x.a8, lZ e) ∧ (x.a9.length ≤ maxLen) ∧ (∀ e ∈ x.a9, hQ e) := by
  obtain ⟨s0, s1, s2, s3, b4, i5, s6, e7, e8, e9⟩ := x
  have h1 : dF [.str s0, .str s1, .str s2, .str s3, .bool b4, .int .i64 i5, .str s6, .sl fP e7, .sl fP e8, .sl fP e9] := h
  cases h1 with
  | mk _ _ _ _ _ _ _ _ _ _ h0 h1 h2 h3 h6 h7 q7 h8 q8 h9 q9 => exact ⟨h0, h1, h2, h3, h6, h7, q7, h8, q8, h9, q9⟩
theorem cK.st {e : El} (h : cK e) : ∃ x : bQ, e = x.l ∧ cK x.l := by
  cases h with
  | mk s0 s1 e2 s3 s4 e5 h0 h1 h2 q2 h3 h4 h5 q5 => exact ⟨⟨s0, s1, e2, s3, s4, e5⟩, rfl, .mk s0 s1 e2 s3 s4 e5 h0 h1 h2 q2 h3 h4 h5 q5⟩
theorem cK.of {e : El} (h : cK e) : (bQ.of e).l = e := by obtain ⟨x, rfl, _⟩ := h.st; rfl
theorem cK.p {x : bQ} (h : cK x.l) : (x.a0.size ≤ maxLen) ∧ (x.a1.size ≤ maxLen) ∧ (x.a2.length ≤ maxLen) ∧ (∀ e ∈ x.a2, dF e) ∧ (x.a3.size ≤ maxLen) ∧ (x.a4.size ≤ maxLen) ∧ (x.a5.length ≤ maxLen) ∧ (∀ e ∈ x.a5, hQ e) := by
  obtain ⟨s0, s1, e2, s3, s4, e5⟩ := x
  have h1 : cK [.str s0, .str s1, .sl fP e2, .str s3, .str s4, .sl fP e5] := h
  cases h1 with
  | mk _ _ _ _ _ _ h0 h1 h2 q2 h3 h4 h5 q5 => exact ⟨h0, h1, h2, q2, h3, h4, h5, q5⟩
theorem cZ.st {e : El} (h : cZ e) : ∃ x : kO, e = x.l ∧ cZ x.l := by
  cases h with
  | mk s0 s1 e2 h0 h1 h2 q2 => exact ⟨⟨s0, s1, e2⟩, rfl, .mk s0 s1 e2 h0 h1 h2 q2⟩
theorem cZ.of {e : El} (h : cZ e) : (kO.of e).l = e := by obtain ⟨x, rfl, _⟩ := h.st; rfl
theorem cZ.p {x : kO} (h : cZ x.l) : (x.a0.size ≤ maxLen) ∧ (x.a1.size ≤ maxLen) ∧ (x.a2.length ≤ maxLen) ∧ (∀ e ∈ x.a2, hQ e) := by
  obtain ⟨s0, s1, e2⟩ := x
  have h1 : cZ [.str s0, .str s1, .sl fP e2] := h
  cases h1 with
  | mk _ _ _ h0 h1 h2 q2 => exact ⟨h0, h1, h2, q2⟩
theorem eV.st {e : El} (h : eV e) : ∃ x : pD, e = x.l ∧ eV x.l := by
  cases h with
  | mk i0 s1 h1 => exact ⟨⟨i0, s1⟩, rfl, .mk i0 s1 h1⟩
theorem eV.of {e : El} (h : eV e) : (pD.of e).l = e := by obtain ⟨x, rfl, _⟩ := h.st; rfl
theorem eV.nosl {e : El} (h : eV e) : e.all aTF = true := by obtain ⟨x, rfl, _⟩ := h.st; rfl
theorem eV.p {x : pD} (h : eV x.l) : (x.a1.size ≤ maxLen) := by
  obtain ⟨i0, s1⟩ := x
  have h1 : eV [.int .i64 i0, .str s1] := h
  cases h1 with
  | mk _ _ h1 => exact h1
theorem eA.st {e : El} (h : eA e) : ∃ x : aG, e = x.l ∧ eA x.l := by
  cases h with
  | mk i0 b1 s2 s3 e4 e5 e6 e7 e8 b9 e10 h2 h3 h4 q4 h5 q5 h6 q6 h7 q7 h8 q8 h10 q10 => exact ⟨⟨i0, b1, s2, s3, e4, e5, e6, e7, e8, b9, e10⟩, rfl, .mk i0 b1 s2 s3 e4 e5 e6 e7 e8 b9 e10 h2 h3 h4 q4 h5 q5 h6 q6 h7 q7 h8 q8 h10 q10⟩
theorem eA.of {e : El} (h : eA e) : (aG.of e).l = e := by obtain ⟨x, rfl, _⟩ := h.st; rfl
theorem eA.p {x : aG} (h : eA x.l) : (x.a2.size ≤ maxLen) ∧ (x.a3.size ≤ maxLen) ∧ (x.a4.length ≤ maxLen) ∧ (∀ e ∈ x.a4, lZ e) ∧ (x.a5.length ≤ maxLen) ∧ (∀ e ∈ x.a5, cK e) ∧ (x.a6.length ≤ maxLen) ∧ (∀ e ∈ x.a6, dF e) ∧ (x.a7.length ≤ maxLen) ∧ (∀ e ∈ x.a7, cZ e) ∧ (x.a8.length ≤ maxLen) ∧ (∀ e ∈ x.a8, eV e) ∧ (x.a10.length ≤ maxLen) ∧ (∀ e ∈ x.a10, hQ e) := by
  obtain ⟨i0, b1, s2, s3, e4, e5, e6, e7, e8, b9, e10⟩ := x
  have h1 : eA [.int .i64 i0, .bool b1, .str s2, .str s3, .sl fP e4, .sl fP e5, .sl fP e6, .sl fP e7, .sl fP e8, .bool b9, .sl fP e10] := h
  cases h1 with
  | mk _ _ _ _ _ _ _ _ _ _ _ h2 h3 h4 q4 h5 q5 h6 q6 h7 q7 h8 q8 h10 q10 => exact ⟨h2, h3, h4, q4, h5, q5, h6, q6, h7, q7, h8, q8, h10, q10⟩
theorem bL.st {e : El} (h : bL e) : ∃ x : bK, e = x.l ∧ bL x.l := by
  cases h with
  | mk e0 e1 e2 h0 q0 h1 q1 h2 q2 => exact ⟨⟨e0, e1, e2⟩, rfl, .mk e0 e1 e2 h0 q0 h1 q1 h2 q2⟩
theorem bL.of {e : El} (h : bL e) : (bK.of e).l = e := by obtain ⟨x, rfl, _⟩ := h.st; rfl
theorem bL.p {x : bK} (h : bL x.l) : (x.a0.length ≤ maxLen) ∧ (∀ e ∈ x.a0, eA e) ∧ (x.a1.length ≤ maxLen) ∧ (∀ e ∈ x.a1, eA e) ∧ (x.a2.length ≤ maxLen) ∧ (∀ e ∈ x.a2, eV e) := by
  obtain ⟨e0, e1, e2⟩ := x
  have h1 : bL [.sl fP e0, .sl fP e1, .sl fP e2] := h
  cases h1 with
  | mk _ _ _ h0 q0 h1 q1 h2 q2 => exact ⟨h0, q0, h1, q1, h2, q2⟩
theorem dP.st {e : El} (h : dP e) : ∃ x : qJ, e = x.l ∧ dP x.l := by
  cases h with
  | mk i0 s1 s2 => exact ⟨⟨i0, s1, s2⟩, rfl, .mk i0 s1 s2⟩
theorem dP.of {e : El} (h : dP e) : (qJ.of e).l = e := by obtain ⟨x, rfl, _⟩ := h.st; rfl
theorem dP.nosl {e : El} (h : dP e) : e.all aTF = true := by obtain ⟨x, rfl, _⟩ := h.st; rfl
end Go.Vs
end
section
open Go Go.Vs Go.Proofs
set_option linter.unusedVariables false
set_option linter.unusedSimpArgs false
namespace Go.Vs
theorem aHv {es : List (List (aF false))} (hl : es.length ≤ maxLen) (hq : ∀ e ∈ es, lZ e) : ∀ i : Nat, i ≤ es.length → ∀ n : Int, 0 ≤ n →
    jJ Dn (tK es n i) = some (aK (szE (es.drop i) n), []) := by
  refine cU ?_ ?_
  · intro n hn; rw [aA8]; simp [szE]
  · intro i hi ih n hn
    obtain ⟨s, he, hs⟩ := hq _ (List.getElem_mem hi)
    rw [aA8, lN hi]
    simp only [Int.ofNat_lt, hi, decide_true, aD, Int.natCast_nonneg, Bool.and_true, Int.toNat_natCast, aH, aX (Nat.lt_of_lt_of_le hi hl), aP (fun e he => (hq e he).len), bJ hi]
    rw [he]
    simp only [cY, cJ]
    exact aUl fun hk => ih _ hk
theorem aDk {es : List (List (aF false))} (hl : es.length ≤ maxLen) (hq : ∀ e ∈ es, lZ e) {n : Int} (hn : 0 ≤ n) :
    Dn F.aYo [vsl es, aK n] [] = some (aK (szF (.sl fP es) n), []) := by
  refine aQ ?_
  rw [aIt]
  refine aEl fun hk => ?_
  have := aHv hl hq 0 (Nat.zero_le _) _ hk
  simpa using this
theorem aHT {ls : List (aF false)} (h : oX ls) : ∀ {n : Int}, 0 ≤ n → Dn F.aZj [.agg ls, aK n] [] = some (aK (szL ls n), []) := by
  cases h with
  | mk s0 s1 h0 h1 =>
    intro n hn
    refine aQ ?_
    rw [aM1]
    refine yI fun hn => ?_
    refine yI fun hn => ?_
    rfl
theorem aIQ {es : List (List (aF false))} (hl : es.length ≤ maxLen) (hq : ∀ e ∈ es, dB e) (hd : ∀ e ∈ es, ∀ n : Int, 0 ≤ n → Dn F.aY9 [.agg e, aK n] [] = some (aK (szL e n), [])) : ∀ i : Nat, i ≤ es.length → ∀ n : Int, 0 ≤ n →
    kF Dn (vH es n i) = some (aK (szE (es.drop i) n), []) := by
  refine cU ?_ ?_
  · intro n hn; rw [aBY]; simp [szE]
  · intro i hi ih n hn
    have hci := hd _ (List.getElem_mem hi) n hn
    obtain ⟨i0, s1, e2, e3, he, h1, h2, q2, h3, q3⟩ := (hq _ (List.getElem_mem hi)).ex
    rw [aBY, lN hi]
    simp only [Int.ofNat_lt, hi, decide_true, aD, Int.natCast_nonneg, Bool.and_true, Int.toNat_natCast, aH, aX (Nat.lt_of_lt_of_le hi hl), aP (fun e he => (hq e he).len), bJ hi]
    rw [he] at hci ⊢
    simp only [eJ, cY, dD, cQ, cJ, dA, fE]
    exact aCJ hci fun k hk => ih k hk
theorem aBO {es : List (List (aF false))} (hl : es.length ≤ maxLen) (hq : ∀ e ∈ es, dB e) (hd : ∀ e ∈ es, ∀ n : Int, 0 ≤ n → Dn F.aY9 [.agg e, aK n] [] = some (aK (szL e n), [])) {n : Int} (hn : 0 ≤ n) :
    Dn F.aYL [vsl es, aK n] [] = some (aK (szF (.sl fP es) n), []) := by
  refine aQ ?_
  rw [aJw]
  refine aEl fun hk => ?_
  have := aIQ hl hq hd 0 (Nat.zero_le _) _ hk
  simpa using this
theorem aB5 {ls : List (aF false)} (h : dB ls) : ∀ {n : Int}, 0 ≤ n → Dn F.aY9 [.agg ls, aK n] [] = some (aK (szL ls n), []) := by
  induction h with
  | mk i0 s1 e2 e3 h1 h2 q2 h3 q3 ih2 =>
    intro n hn
    refine aQ ?_
    rw [aK1]
    refine aSp hn ?_
    refine yI fun hn => ?_
    refine lY (aBO h2 q2 (fun e he n hn => ih2 e he hn) hn) fun k hn => ?_
    refine lY (aDk h3 q3 hn) fun k hn => ?_
    rfl
theorem aT2 {es : List (List (aF false))} (hl : es.length ≤ maxLen) (hq : ∀ e ∈ es, dB e) {n : Int} (hn : 0 ≤ n) : Dn F.aYL [vsl es, aK n] [] = some (aK (szF (.sl fP es) n), []) := aBO hl hq (fun e he n hn => aB5 (hq e he) hn) hn
theorem aLO {es : List (List (aF false))} (hl : es.length ≤ maxLen) (hq : ∀ e ∈ es, lM e) (hd : ∀ e ∈ es, ∀ n : Int, 0 ≤ n → Dn F.aZK [.agg e, aK n] [] = some (aK (szL e n), [])) : ∀ i : Nat, i ≤ es.length → ∀ n : Int, 0 ≤ n →
    mM Dn (zV es n i) = some (aK (szE (es.drop i) n), []) := by
  refine cU ?_ ?_
  · intro n hn; rw [aDs]; simp [szE]
  · intro i hi ih n hn
    have hci := hd _ (List.getElem_mem hi) n hn
    obtain ⟨s0, i1, s2, e3, e4, he, h0, h2, h3, q3, h4, q4⟩ := (hq _ (List.getElem_mem hi)).ex
    rw [aDs, lN hi]
    simp only [Int.ofNat_lt, hi, decide_true, aD, Int.natCast_nonneg, Bool.and_true, Int.toNat_natCast, aH, aX (Nat.lt_of_lt_of_le hi hl), aP (fun e he => (hq e he).len), bJ hi]
    rw [he] at hci ⊢
    simp only [eJ, cY, dD, cQ, cJ, dA, fE]
    exact aCJ hci fun k hk => ih k hk
theorem aLK {es : List (List (aF false))} (hl : es.length ≤ maxLen) (hq : ∀ e ∈ es, lM e) (hd : ∀ e ∈ es, ∀ n : Int, 0 ≤ n → Dn F.aZK [.agg e, aK n] [] = some (aK (szL e n), [])) {n : Int} (hn : 0 ≤ n) :
    Dn F.aZq [vsl es, aK n] [] = some (aK (szF (.sl fP es) n), []) := by
  refine aQ ?_
  rw [aMG]
  refine aEl fun hk => ?_
  have := aLO hl hq hd 0 (Nat.zero_le _) _ hk
  simpa using this
theorem aPR {ls : List (aF false)} (h : lM ls) : ∀ {n : Int}, 0 ≤ n → Dn F.aZK [.agg ls, aK n] [] = some (aK (szL ls n), []) := by
  cases h with
  | mk s0 i1 s2 e3 e4 h0 h2 h3 q3 h4 q4 =>
    intro n hn
    refine aQ ?_
    rw [aOi]
    refine yI fun hn => ?_
    refine aM7 (a := [.int .i64 i1, .str s2, .sl fP e3, .sl fP e4]) (aB5 (.mk i1 s2 e3 e4 h2 h3 q3 h4 q4) hn) hn fun k hn => ?_
    rfl
theorem aOD {es : List (List (aF false))} (hl : es.length ≤ maxLen) (hq : ∀ e ∈ es, lM e) {n : Int} (hn : 0 ≤ n) : Dn F.aZq [vsl es, aK n] [] = some (aK (szF (.sl fP es) n), []) := aLK hl hq (fun e he n hn => aPR (hq e he) hn) hn
theorem aLR {es : List (List (aF false))} (hl : es.length ≤ maxLen) (hq : ∀ e ∈ es, hQ e) (hd : ∀ e ∈ es, ∀ n : Int, 0 ≤ n → Dn F.aZU [.agg e, aK n] [] = some (aK (szL e n), [])) : ∀ i : Nat, i ≤ es.length → ∀ n : Int, 0 ≤ n →
    mO Dn (aAd es n i) = some (aK (szE (es.drop i) n), []) := by
  refine cU ?_ ?_
  · intro n hn; rw [aDU]; simp [szE]
  · intro i hi ih n hn
    have hci := hd _ (List.getElem_mem hi) n hn
    obtain ⟨s0, e1, he, h0, h1, q1⟩ := (hq _ (List.getElem_mem hi)).ex
    rw [aDU, lN hi]
    simp only [Int.ofNat_lt, hi, decide_true, aD, Int.natCast_nonneg, Bool.and_true, Int.toNat_natCast, aH, aX (Nat.lt_of_lt_of_le hi hl), aP (fun e he => (hq e he).len), bJ hi]
    rw [he] at hci ⊢
    simp only [eJ, cY, dD, cQ, cJ, dA, fE]
    exact aCJ hci fun k hk => ih k hk
theorem aKI {es : List (List (aF false))} (hl : es.length ≤ maxLen) (hq : ∀ e ∈ es, hQ e) (hd : ∀ e ∈ es, ∀ n : Int, 0 ≤ n → Dn F.aZU [.agg e, aK n] [] = some (aK (szL e n), [])) {n : Int} (hn : 0 ≤ n) :
    Dn F.aZm [vsl es, aK n] [] = some (aK (szF (.sl fP es) n), []) := by
  refine aQ ?_
  rw [aMZ]
  refine aEl fun hk => ?_
  have := aLR hl hq hd 0 (Nat.zero_le _) _ hk
  simpa using this
theorem aPT {ls : List (aF false)} (h : hQ ls) : ∀ {n : Int}, 0 ≤ n → Dn F.aZU [.agg ls, aK n] [] = some (aK (szL ls n), []) := by
  cases h with
  | mk s0 e1 h0 h1 q1 =>
    intro n hn
    refine aQ ?_
    rw [aNt]
    refine yI fun hn => ?_
    refine lY (aOD h1 q1 hn) fun k hn => ?_
    rfl
theorem zY {es : List (List (aF false))} (hl : es.length ≤ maxLen) (hq : ∀ e ∈ es, hQ e) {n : Int} (hn : 0 ≤ n) : Dn F.aZm [vsl es, aK n] [] = some (aK (szF (.sl fP es) n), []) := aKI hl hq (fun e he n hn => aPT (hq e he) hn) hn
theorem aI0 {es : List (List (aF false))} (hl : es.length ≤ maxLen) (hq : ∀ e ∈ es, dF e) (hd : ∀ e ∈ es, ∀ n : Int, 0 ≤ n → Dn F.aYX [.agg e, aK n] [] = some (aK (szL e n), [])) : ∀ i : Nat, i ≤ es.length → ∀ n : Int, 0 ≤ n →
    kH Dn (vE es n i) = some (aK (szE (es.drop i) n), []) := by
  refine cU ?_ ?_
  · intro n hn; rw [aBN]; simp [szE]
  · intro i hi ih n hn
    have hci := hd _ (List.getElem_mem hi) n hn
    obtain ⟨s0, s1, s2, s3, b4, i5, s6, e7, e8, e9, he, h0, h1, h2, h3, h6, h7, q7, h8, q8, h9, q9⟩ := (hq _ (List.getElem_mem hi)).ex
    rw [aBN, lN hi]
    simp only [Int.ofNat_lt, hi, decide_true, aD, Int.natCast_nonneg, Bool.and_true, Int.toNat_natCast, aH, aX (Nat.lt_of_lt_of_le hi hl), aP (fun e he => (hq e he).len), bJ hi]
    rw [he] at hci ⊢
    simp only [eJ, cY, dD, cQ, cJ, dA, fE]
    exact aCJ hci fun k hk => ih k hk
theorem aIB {es : List (List (aF false))} (hl : es.length ≤ maxLen) (hq : ∀ e ∈ es, dF e) (hd : ∀ e ∈ es, ∀ n : Int, 0 ≤ n → Dn F.aYX [.agg e, aK n] [] = some (aK (szL e n), [])) {n : Int} (hn : 0 ≤ n) :
    Dn F.aYy [vsl es, aK n] [] = some (aK (szF (.sl fP es) n), []) := by
  refine aQ ?_
  rw [aJ1]
  refine aEl fun hk => ?_
  have := aI0 hl hq hd 0 (Nat.zero_le _) _ hk
  simpa using this
theorem aN2 {ls : List (aF false)} (h : dF ls) : ∀ {n : Int}, 0 ≤ n → Dn F.aYX [.agg ls, aK n] [] = some (aK (szL ls n), []) := by
  cases h with
  | mk s0 s1 s2 s3 b4 i5 s6 e7 e8 e9 h0 h1 h2 h3 h6 h7 q7 h8 q8 h9 q9 =>
    intro n hn
    refine aQ ?_
    rw [aKS]
    refine yI fun hn => ?_
    refine yI fun hn => ?_
    refine aM7 (a := [.str s2, .str s3]) (aHT (.mk s2 s3 h2 h3) hn) hn fun k hn => ?_
    refine aQp hn ?_
    refine aM7 (a := [.int .i64 i5, .str s6, .sl fP e7, .sl fP e8]) (aB5 (.mk i5 s6 e7 e8 h6 h7 q7 h8 q8) hn) hn fun k hn => ?_
    refine lY (zY h9 q9 hn) fun k hn => ?_
    rfl
theorem aET {es : List (List (aF false))} (hl : es.length ≤ maxLen) (hq : ∀ e ∈ es, dF e) {n : Int} (hn : 0 ≤ n) : Dn F.aYy [vsl es, aK n] [] = some (aK (szF (.sl fP es) n), []) := aIB hl hq (fun e he n hn => aN2 (hq e he) hn) hn
theorem aFo {es : List (List (aF false))} (hl : es.length ≤ maxLen) (hq : ∀ e ∈ es, cK e) (hd : ∀ e ∈ es, ∀ n : Int, 0 ≤ n → Dn F.aX9 [.agg e, aK n] [] = some (aK (szL e n), [])) : ∀ i : Nat, i ≤ es.length → ∀ n : Int, 0 ≤ n →
    gV Dn (qS es n i) = some (aK (szE (es.drop i) n), []) := by
  refine cU ?_ ?_
  · intro n hn; rw [zC]; simp [szE]
  · intro i hi ih n hn
    have hci := hd _ (List.getElem_mem hi) n hn
    obtain ⟨s0, s1, e2, s3, s4, e5, he, h0, h1, h2, q2, h3, h4, h5, q5⟩ := (hq _ (List.getElem_mem hi)).ex
    rw [zC, lN hi]
    simp only [Int.ofNat_lt, hi, decide_true, aD, Int.natCast_nonneg, Bool.and_true, Int.toNat_natCast, aH, aX (Nat.lt_of_lt_of_le hi hl), aP (fun e he => (hq e he).len), bJ hi]
    rw [he] at hci ⊢
    simp only [eJ, cY, dD, cQ, cJ, dA, fE]
    exact aCJ hci fun k hk => ih k hk
theorem aFF {es : List (List (aF false))} (hl : es.length ≤ maxLen) (hq : ∀ e ∈ es, cK e) (hd : ∀ e ∈ es, ∀ n : Int, 0 ≤ n → Dn F.aX9 [.agg e, aK n] [] = some (aK (szL e n), [])) {n : Int} (hn : 0 ≤ n) :
    Dn F.aXT [vsl es, aK n] [] = some (aK (szF (.sl fP es) n), []) := by
  refine aQ ?_
  rw [aGX]
  refine aEl fun hk => ?_
  have := aFo hl hq hd 0 (Nat.zero_le _) _ hk
  simpa using this
theorem aJ8 {ls : List (aF false)} (h : cK ls) : ∀ {n : Int}, 0 ≤ n → Dn F.aX9 [.agg ls, aK n] [] = some (aK (szL ls n), []) := by
  cases h with
  | mk s0 s1 e2 s3 s4 e5 h0 h1 h2 q2 h3 h4 h5 q5 =>
    intro n hn
    refine aQ ?_
    rw [aHi]
    refine yI fun hn => ?_
    refine yI fun hn => ?_
    refine lY (aET h2 q2 hn) fun k hn => ?_
    refine aM7 (a := [.str s3, .str s4]) (aHT (.mk s3 s4 h3 h4) hn) hn fun k hn => ?_
    refine lY (zY h5 q5 hn) fun k hn => ?_
    rfl
theorem aJc {es : List (List (aF false))} (hl : es.length ≤ maxLen) (hq : ∀ e ∈ es, cK e) {n : Int} (hn : 0 ≤ n) : Dn F.aXT [vsl es, aK n] [] = some (aK (szF (.sl fP es) n), []) := aFF hl hq (fun e he n hn => aJ8 (hq e he) hn) hn
theorem aGF {es : List (List (aF false))} (hl : es.length ≤ maxLen) (hq : ∀ e ∈ es, cZ e) (hd : ∀ e ∈ es, ∀ n : Int, 0 ≤ n → Dn F.aYf [.agg e, aK n] [] = some (aK (szL e n), [])) : ∀ i : Nat, i ≤ es.length → ∀ n : Int, 0 ≤ n →
    iR Dn (sF es n i) = some (aK (szE (es.drop i) n), []) := by
  refine cU ?_ ?_
  · intro n hn; rw [aAI]; simp [szE]
  · intro i hi ih n hn
    have hci := hd _ (List.getElem_mem hi) n hn
    obtain ⟨s0, s1, e2, he, h0, h1, h2, q2⟩ := (hq _ (List.getElem_mem hi)).ex
    rw [aAI, lN hi]
    simp only [Int.ofNat_lt, hi, decide_true, aD, Int.natCast_nonneg, Bool.and_true, Int.toNat_natCast, aH, aX (Nat.lt_of_lt_of_le hi hl), aP (fun e he => (hq e he).len), bJ hi]
    rw [he] at hci ⊢
    simp only [eJ, cY, dD, cQ, cJ, dA, fE]
    exact aCJ hci fun k hk => ih k hk
theorem aGA {es : List (List (aF false))} (hl : es.length ≤ maxLen) (hq : ∀ e ∈ es, cZ e) (hd : ∀ e ∈ es, ∀ n : Int, 0 ≤ n → Dn F.aYf [.agg e, aK n] [] = some (aK (szL e n), [])) {n : Int} (hn : 0 ≤ n) :
    Dn F.aX5 [vsl es, aK n] [] = some (aK (szF (.sl fP es) n), []) := by
  refine aQ ?_
  rw [aHK]
  refine aEl fun hk => ?_
  have := aGF hl hq hd 0 (Nat.zero_le _) _ hk
  simpa using this
theorem aLp {ls : List (aF false)} (h : cZ ls) : ∀ {n : Int}, 0 ≤ n → Dn F.aYf [.agg ls, aK n] [] = some (aK (szL ls n), []) := by
  cases h with
  | mk s0 s1 e2 h0 h1 h2 q2 =>
    intro n hn
    refine aQ ?_
    rw [aIX]
    refine yI fun hn => ?_
    refine yI fun hn => ?_
    refine lY (zY h2 q2 hn) fun k hn => ?_
    rfl
theorem aJJ {es : List (List (aF false))} (hl : es.length ≤ maxLen) (hq : ∀ e ∈ es, cZ e) {n : Int} (hn : 0 ≤ n) : Dn F.aX5 [vsl es, aK n] [] = some (aK (szF (.sl fP es) n), []) := aGA hl hq (fun e he n hn => aLp (hq e he) hn) hn
theorem aKx {es : List (List (aF false))} (hl : es.length ≤ maxLen) (hq : ∀ e ∈ es, eV e) (hd : ∀ e ∈ es, ∀ n : Int, 0 ≤ n → Dn F.aZH [.agg e, aK n] [] = some (aK (szL e n), [])) : ∀ i : Nat, i ≤ es.length → ∀ n : Int, 0 ≤ n →
    lD Dn (xF es n i) = some (aK (szE (es.drop i) n), []) := by
  refine cU ?_ ?_
  · intro n hn; rw [aCe]; simp [szE]
  · intro i hi ih n hn
    have hci := hd _ (List.getElem_mem hi) n hn
    obtain ⟨i0, s1, he, h1⟩ := (hq _ (List.getElem_mem hi)).ex
    rw [aCe, lN hi]
    simp only [Int.ofNat_lt, hi, decide_true, aD, Int.natCast_nonneg, Bool.and_true, Int.toNat_natCast, aH, aX (Nat.lt_of_lt_of_le hi hl), aP (fun e he => (hq e he).len), bJ hi]
    rw [he] at hci ⊢
    simp only [eJ, cY, dD, cQ, cJ, dA, fE]
    exact aCJ hci fun k hk => ih k hk
theorem aJi {es : List (List (aF false))} (hl : es.length ≤ maxLen) (hq : ∀ e ∈ es, eV e) (hd : ∀ e ∈ es, ∀ n : Int, 0 ≤ n → Dn F.aZH [.agg e, aK n] [] = some (aK (szL e n), [])) {n : Int} (hn : 0 ≤ n) :
    Dn F.aYO [vsl es, aK n] [] = some (aK (szF (.sl fP es) n), []) := by
  refine aQ ?_
  rw [aKR]
  refine aEl fun hk => ?_
  have := aKx hl hq hd 0 (Nat.zero_le _) _ hk
  simpa using this
theorem aOM {ls : List (aF false)} (h : eV ls) : ∀ {n : Int}, 0 ≤ n → Dn F.aZH [.agg ls, aK n] [] = some (aK (szL ls n), []) := by
  cases h with
  | mk i0 s1 h1 =>
    intro n hn
    refine aQ ?_
    rw [aMN]
    refine aSp hn ?_
    refine yI fun hn => ?_
    rfl
theorem aGo {es : List (List (aF false))} (hl : es.length ≤ maxLen) (hq : ∀ e ∈ es, eV e) {n : Int} (hn : 0 ≤ n) : Dn F.aYO [vsl es, aK n] [] = some (aK (szF (.sl fP es) n), []) := aJi hl hq (fun e he n hn => aOM (hq e he) hn) hn
theorem aLg {es : List (List (aF false))} (hl : es.length ≤ maxLen) (hq : ∀ e ∈ es, eA e) (hd : ∀ e ∈ es, ∀ n : Int, 0 ≤ n → Dn F.aZJ [.agg e, aK n] [] = some (aK (szL e n), [])) : ∀ i : Nat, i ≤ es.length → ∀ n : Int, 0 ≤ n →
    mR Dn (aAi es n i) = some (aK (szE (es.drop i) n), []) := by
  refine cU ?_ ?_
  · intro n hn; rw [aDo]; simp [szE]
  · intro i hi ih n hn
    have hci := hd _ (List.getElem_mem hi) n hn
    obtain ⟨i0, b1, s2, s3, e4, e5, e6, e7, e8, b9, e10, he, h2, h3, h4, q4, h5, q5, h6, q6, h7, q7, h8, q8, h10, q10⟩ := (hq _ (List.getElem_mem hi)).ex
    rw [aDo, lN hi]
    simp only [Int.ofNat_lt, hi, decide_true, aD, Int.natCast_nonneg, Bool.and_true, Int.toNat_natCast, aH, aX (Nat.lt_of_lt_of_le hi hl), aP (fun e he => (hq e he).len), bJ hi]
    rw [he] at hci ⊢
    simp only [eJ, cY, dD, cQ, cJ, dA, fE]
    exact aCJ hci fun k hk => ih k hk
theorem aLv {es : List (List (aF false))} (hl : es.length ≤ maxLen) (hq : ∀ e ∈ es, eA e) (hd : ∀ e ∈ es, ∀ n : Int, 0 ≤ n → Dn F.aZJ [.agg e, aK n] [] = some (aK (szL e n), [])) {n : Int} (hn : 0 ≤ n) :
    Dn F.aZz [vsl es, aK n] [] = some (aK (szF (.sl fP es) n), []) := by
  refine aQ ?_
  rw [aMy]
  refine aEl fun hk => ?_
  have := aLg hl hq hd 0 (Nat.zero_le _) _ hk
  simpa using this
theorem aPV {ls : List (aF false)} (h : eA ls) : ∀ {n : Int}, 0 ≤ n → Dn F.aZJ [.agg ls, aK n] [] = some (aK (szL ls n), []) := by
  cases h with
  | mk i0 b1 s2 s3 e4 e5 e6 e7 e8 b9 e10 h2 h3 h4 q4 h5 q5 h6 q6 h7 q7 h8 q8 h10 q10 =>
    intro n hn
    refine aQ ?_
    rw [aNJ]
    refine aSp hn ?_
    refine aQp hn ?_
    refine yI fun hn => ?_
    refine yI fun hn => ?_
    refine lY (aDk h4 q4 hn) fun k hn => ?_
    refine lY (aJc h5 q5 hn) fun k hn => ?_
    refine lY (aET h6 q6 hn) fun k hn => ?_
    refine lY (aJJ h7 q7 hn) fun k hn => ?_
    refine lY (aGo h8 q8 hn) fun k hn => ?_
    refine aQp hn ?_
    refine lY (zY h10 q10 hn) fun k hn => ?_
    rfl
theorem aIg {es : List (List (aF false))} (hl : es.length ≤ maxLen) (hq : ∀ e ∈ es, eA e) {n : Int} (hn : 0 ≤ n) : Dn F.aZz [vsl es, aK n] [] = some (aK (szF (.sl fP es) n), []) := aLv hl hq (fun e he n hn => aPV (hq e he) hn) hn
theorem aMx {ls : List (aF false)} (h : bL ls) : ∀ {n : Int}, 0 ≤ n → Dn F.aYC [.agg ls, aK n] [] = some (aK (szL ls n), []) := by
  cases h with
  | mk e0 e1 e2 h0 q0 h1 q1 h2 q2 =>
    intro n hn
    refine aQ ?_
    rw [aKi]
    refine lY (aIg h0 q0 hn) fun k hn => ?_
    refine lY (aIg h1 q1 hn) fun k hn => ?_
    refine lY (aGo h2 q2 hn) fun k hn => ?_
    rfl
end Go.Vs
end
section
open Go Go.Vs Go.Proofs
set_option linter.unusedVariables false
set_option linter.unusedSimpArgs false
namespace Go.Vs
theorem aHB {es : List (List (aF false))} (hl : es.length ≤ maxLen) (hq : ∀ e ∈ es, lZ e) : ∀ i : Nat, i ≤ es.length →
    jK Dn (tN es es i) = some (aJ true, []) := by
  refine cU ?_ ?_
  · rw [aBf]; simp
  · intro i hi ih
    obtain ⟨s, he, hs⟩ := hq _ (List.getElem_mem hi)
    rw [aBf]
    simp only [Int.ofNat_lt, hi, decide_true, aD, Int.natCast_nonneg, Bool.and_true, Int.toNat_natCast, aH, aX (Nat.lt_of_lt_of_le hi hl), aP (fun e he => (hq e he).len), bJ hi]
    rw [he]
    simp only [cY, cJ, beq_self_eq_true, Bool.not_true, aC]
    exact ih
theorem aDS {es : List (List (aF false))} (hl : es.length ≤ maxLen) (hq : ∀ e ∈ es, lZ e) : Dn F.aYm [vsl es, vsl es] [] = some (aJ true, []) := by
  refine aQ ?_
  rw [aIV]
  have := aHB hl hq 0 (Nat.zero_le _)
  simpa using this
theorem aH4 {ls : List (aF false)} (h : oX ls) : Dn F.aZe [.agg ls, .agg ls] [] = some (aJ true, []) := by
  cases h with
  | mk s0 s1 h0 h1 =>
    refine aQ ?_
    rw [aMo]
    simp []
theorem aI3 {es : List (List (aF false))} (hl : es.length ≤ maxLen) (hq : ∀ e ∈ es, dB e) (hd : ∀ e ∈ es, Dn F.aY8 [.agg e, .agg e] [] = some (aJ true, [])) : ∀ i : Nat, i ≤ es.length →
    kG Dn (vF es es i) = some (aJ true, []) := by
  refine cU ?_ ?_
  · rw [aBx]; simp
  · intro i hi ih
    have hci := hd _ (List.getElem_mem hi)
    obtain ⟨i0, s1, e2, e3, he, h1, h2, q2, h3, q3⟩ := (hq _ (List.getElem_mem hi)).ex
    rw [aBx]
    simp only [Int.ofNat_lt, hi, decide_true, aD, Int.natCast_nonneg, Bool.and_true, Int.toNat_natCast, aH, aX (Nat.lt_of_lt_of_le hi hl), aP (fun e he => (hq e he).len), bJ hi]
    rw [he] at hci ⊢
    simp only [eJ, cY, dD, cQ, cJ, dA, fE, hci, Option.bind_some, bV, Bool.not_true, aC]
    exact ih
theorem aBP {es : List (List (aF false))} (hl : es.length ≤ maxLen) (hq : ∀ e ∈ es, dB e) (hd : ∀ e ∈ es, Dn F.aY8 [.agg e, .agg e] [] = some (aJ true, [])) : Dn F.aYz [vsl es, vsl es] [] = some (aJ true, []) := by
  refine aQ ?_
  rw [aJA]
  have := aI3 hl hq hd 0 (Nat.zero_le _)
  simpa using this
theorem aB4 {ls : List (aF false)} (h : dB ls) : Dn F.aY8 [.agg ls, .agg ls] [] = some (aJ true, []) := by
  induction h with
  | mk i0 s1 e2 e3 h1 h2 q2 h3 q3 ih2 =>
    refine aQ ?_
    rw [aK6]
    have c2 := aBP h2 q2 ih2
    have c3 := aDS h3 q3
    simp [c2, c3]
theorem aT1 {es : List (List (aF false))} (hl : es.length ≤ maxLen) (hq : ∀ e ∈ es, dB e) : Dn F.aYz [vsl es, vsl es] [] = some (aJ true, []) := aBP hl hq fun e he => aB4 (hq e he)
theorem aKV {es : List (List (aF false))} (hl : es.length ≤ maxLen) (hq : ∀ e ∈ es, lM e) (hd : ∀ e ∈ es, Dn F.aZM [.agg e, .agg e] [] = some (aJ true, [])) : ∀ i : Nat, i ≤ es.length →
    mP Dn (aAe es es i) = some (aJ true, []) := by
  refine cU ?_ ?_
  · rw [aDT]; simp
  · intro i hi ih
    have hci := hd _ (List.getElem_mem hi)
    obtain ⟨s0, i1, s2, e3, e4, he, h0, h2, h3, q3, h4, q4⟩ := (hq _ (List.getElem_mem hi)).ex
    rw [aDT]
    simp only [Int.ofNat_lt, hi, decide_true, aD, Int.natCast_nonneg, Bool.and_true, Int.toNat_natCast, aH, aX (Nat.lt_of_lt_of_le hi hl), aP (fun e he => (hq e he).len), bJ hi]
    rw [he] at hci ⊢
    simp only [eJ, cY, dD, cQ, cJ, dA, fE, hci, Option.bind_some, bV, Bool.not_true, aC]
    exact ih
theorem aLj {es : List (List (aF false))} (hl : es.length ≤ maxLen) (hq : ∀ e ∈ es, lM e) (hd : ∀ e ∈ es, Dn F.aZM [.agg e, .agg e] [] = some (aJ true, [])) : Dn F.aZu [vsl es, vsl es] [] = some (aJ true, []) := by
  refine aQ ?_
  rw [aMI]
  have := aKV hl hq hd 0 (Nat.zero_le _)
  simpa using this
theorem aP7 {ls : List (aF false)} (h : lM ls) : Dn F.aZM [.agg ls, .agg ls] [] = some (aJ true, []) := by
  cases h with
  | mk s0 i1 s2 e3 e4 h0 h2 h3 q3 h4 q4 =>
    refine aQ ?_
    rw [aOf]
    have c1 := aB4 (.mk i1 s2 e3 e4 h2 h3 q3 h4 q4)
    simp [c1]
theorem aOF {es : List (List (aF false))} (hl : es.length ≤ maxLen) (hq : ∀ e ∈ es, lM e) : Dn F.aZu [vsl es, vsl es] [] = some (aJ true, []) := aLj hl hq fun e he => aP7 (hq e he)
theorem aKQ {es : List (List (aF false))} (hl : es.length ≤ maxLen) (hq : ∀ e ∈ es, hQ e) (hd : ∀ e ∈ es, Dn F.aZN [.agg e, .agg e] [] = some (aJ true, [])) : ∀ i : Nat, i ≤ es.length →
    mV Dn (zU es es i) = some (aJ true, []) := by
  refine cU ?_ ?_
  · rw [aDJ]; simp
  · intro i hi ih
    have hci := hd _ (List.getElem_mem hi)
    obtain ⟨s0, e1, he, h0, h1, q1⟩ := (hq _ (List.getElem_mem hi)).ex
    rw [aDJ]
    simp only [Int.ofNat_lt, hi, decide_true, aD, Int.natCast_nonneg, Bool.and_true, Int.toNat_natCast, aH, aX (Nat.lt_of_lt_of_le hi hl), aP (fun e he => (hq e he).len), bJ hi]
    rw [he] at hci ⊢
    simp only [eJ, cY, dD, cQ, cJ, dA, fE, hci, Option.bind_some, bV, Bool.not_true, aC]
    exact ih
theorem aLy {es : List (List (aF false))} (hl : es.length ≤ maxLen) (hq : ∀ e ∈ es, hQ e) (hd : ∀ e ∈ es, Dn F.aZN [.agg e, .agg e] [] = some (aJ true, [])) : Dn F.aZx [vsl es, vsl es] [] = some (aJ true, []) := by
  refine aQ ?_
  rw [aMr]
  have := aKQ hl hq hd 0 (Nat.zero_le _)
  simpa using this
theorem aP0 {ls : List (aF false)} (h : hQ ls) : Dn F.aZN [.agg ls, .agg ls] [] = some (aJ true, []) := by
  cases h with
  | mk s0 e1 h0 h1 q1 =>
    refine aQ ?_
    rw [aNq]
    have c1 := aOF h1 q1
    simp [c1]
theorem zX {es : List (List (aF false))} (hl : es.length ≤ maxLen) (hq : ∀ e ∈ es, hQ e) : Dn F.aZx [vsl es, vsl es] [] = some (aJ true, []) := aLy hl hq fun e he => aP0 (hq e he)
theorem aIs {es : List (List (aF false))} (hl : es.length ≤ maxLen) (hq : ∀ e ∈ es, dF e) (hd : ∀ e ∈ es, Dn F.aYS [.agg e, .agg e] [] = some (aJ true, [])) : ∀ i : Nat, i ≤ es.length →
    kI Dn (vS es es i) = some (aJ true, []) := by
  refine cU ?_ ?_
  · rw [aBT]; simp
  · intro i hi ih
    have hci := hd _ (List.getElem_mem hi)
    obtain ⟨s0, s1, s2, s3, b4, i5, s6, e7, e8, e9, he, h0, h1, h2, h3, h6, h7, q7, h8, q8, h9, q9⟩ := (hq _ (List.getElem_mem hi)).ex
    rw [aBT]
    simp only [Int.ofNat_lt, hi, decide_true, aD, Int.natCast_nonneg, Bool.and_true, Int.toNat_natCast, aH, aX (Nat.lt_of_lt_of_le hi hl), aP (fun e he => (hq e he).len), bJ hi]
    rw [he] at hci ⊢
    simp only [eJ, cY, dD, cQ, cJ, dA, fE, hci, Option.bind_some, bV, Bool.not_true, aC]
    exact ih
theorem aJa {es : List (List (aF false))} (hl : es.length ≤ maxLen) (hq : ∀ e ∈ es, dF e) (hd : ∀ e ∈ es, Dn F.aYS [.agg e, .agg e] [] = some (aJ true, [])) : Dn F.aYG [vsl es, vsl es] [] = some (aJ true, []) := by
  refine aQ ?_
  rw [aJ9]
  have := aIs hl hq hd 0 (Nat.zero_le _)
  simpa using this
theorem aOz {ls : List (aF false)} (h : dF ls) : Dn F.aYS [.agg ls, .agg ls] [] = some (aJ true, []) := by
  cases h with
  | mk s0 s1 s2 s3 b4 i5 s6 e7 e8 e9 h0 h1 h2 h3 h6 h7 q7 h8 q8 h9 q9 =>
    refine aQ ?_
    rw [aLx]
    have c2 := aH4 (.mk s2 s3 h2 h3)
    have c5 := aB4 (.mk i5 s6 e7 e8 h6 h7 q7 h8 q8)
    have c9 := zX h9 q9
    simp [c2, c5, c9]
theorem aE1 {es : List (List (aF false))} (hl : es.length ≤ maxLen) (hq : ∀ e ∈ es, dF e) : Dn F.aYG [vsl es, vsl es] [] = some (aJ true, []) := aJa hl hq fun e he => aOz (hq e he)
theorem aFL {es : List (List (aF false))} (hl : es.length ≤ maxLen) (hq : ∀ e ∈ es, cK e) (hd : ∀ e ∈ es, Dn F.aX6 [.agg e, .agg e] [] = some (aJ true, [])) : ∀ i : Nat, i ≤ es.length →
    gY Dn (qP es es i) = some (aJ true, []) := by
  refine cU ?_ ?_
  · rw [zA]; simp
  · intro i hi ih
    have hci := hd _ (List.getElem_mem hi)
    obtain ⟨s0, s1, e2, s3, s4, e5, he, h0, h1, h2, q2, h3, h4, h5, q5⟩ := (hq _ (List.getElem_mem hi)).ex
    rw [zA]
    simp only [Int.ofNat_lt, hi, decide_true, aD, Int.natCast_nonneg, Bool.and_true, Int.toNat_natCast, aH, aX (Nat.lt_of_lt_of_le hi hl), aP (fun e he => (hq e he).len), bJ hi]
    rw [he] at hci ⊢
    simp only [eJ, cY, dD, cQ, cJ, dA, fE, hci, Option.bind_some, bV, Bool.not_true, aC]
    exact ih
theorem aFh {es : List (List (aF false))} (hl : es.length ≤ maxLen) (hq : ∀ e ∈ es, cK e) (hd : ∀ e ∈ es, Dn F.aX6 [.agg e, .agg e] [] = some (aJ true, [])) : Dn F.aXP [vsl es, vsl es] [] = some (aJ true, []) := by
  refine aQ ?_
  rw [aGY]
  have := aFL hl hq hd 0 (Nat.zero_le _)
  simpa using this
theorem aJn {ls : List (aF false)} (h : cK ls) : Dn F.aX6 [.agg ls, .agg ls] [] = some (aJ true, []) := by
  cases h with
  | mk s0 s1 e2 s3 s4 e5 h0 h1 h2 q2 h3 h4 h5 q5 =>
    refine aQ ?_
    rw [aHw]
    have c2 := aE1 h2 q2
    have c3 := aH4 (.mk s3 s4 h3 h4)
    have c5 := zX h5 q5
    simp [c2, c3, c5]
theorem aI7 {es : List (List (aF false))} (hl : es.length ≤ maxLen) (hq : ∀ e ∈ es, cK e) : Dn F.aXP [vsl es, vsl es] [] = some (aJ true, []) := aFh hl hq fun e he => aJn (hq e he)
theorem aGq {es : List (List (aF false))} (hl : es.length ≤ maxLen) (hq : ∀ e ∈ es, cZ e) (hd : ∀ e ∈ es, Dn F.aYa [.agg e, .agg e] [] = some (aJ true, [])) : ∀ i : Nat, i ≤ es.length →
    iT Dn (sC es es i) = some (aJ true, []) := by
  refine cU ?_ ?_
  · rw [aAL]; simp
  · intro i hi ih
    have hci := hd _ (List.getElem_mem hi)
    obtain ⟨s0, s1, e2, he, h0, h1, h2, q2⟩ := (hq _ (List.getElem_mem hi)).ex
    rw [aAL]
    simp only [Int.ofNat_lt, hi, decide_true, aD, Int.natCast_nonneg, Bool.and_true, Int.toNat_natCast, aH, aX (Nat.lt_of_lt_of_le hi hl), aP (fun e he => (hq e he).len), bJ hi]
    rw [he] at hci ⊢
    simp only [eJ, cY, dD, cQ, cJ, dA, fE, hci, Option.bind_some, bV, Bool.not_true, aC]
    exact ih
theorem aFQ {es : List (List (aF false))} (hl : es.length ≤ maxLen) (hq : ∀ e ∈ es, cZ e) (hd : ∀ e ∈ es, Dn F.aYa [.agg e, .agg e] [] = some (aJ true, [])) : Dn F.aXY [vsl es, vsl es] [] = some (aJ true, []) := by
  refine aQ ?_
  rw [aHn]
  have := aGq hl hq hd 0 (Nat.zero_le _)
  simpa using this
theorem aLL {ls : List (aF false)} (h : cZ ls) : Dn F.aYa [.agg ls, .agg ls] [] = some (aJ true, []) := by
  cases h with
  | mk s0 s1 e2 h0 h1 h2 q2 =>
    refine aQ ?_
    rw [aIv]
    have c2 := zX h2 q2
    simp [c2]
theorem aKo {es : List (List (aF false))} (hl : es.length ≤ maxLen) (hq : ∀ e ∈ es, cZ e) : Dn F.aXY [vsl es, vsl es] [] = some (aJ true, []) := aFQ hl hq fun e he => aLL (hq e he)
theorem aJk {es : List (List (aF false))} (hl : es.length ≤ maxLen) (hq : ∀ e ∈ es, eV e) (hd : ∀ e ∈ es, Dn F.aZc [.agg e, .agg e] [] = some (aJ true, [])) : ∀ i : Nat, i ≤ es.length →
    lI Dn (xN es es i) = some (aJ true, []) := by
  refine cU ?_ ?_
  · rw [aCy]; simp
  · intro i hi ih
    have hci := hd _ (List.getElem_mem hi)
    obtain ⟨i0, s1, he, h1⟩ := (hq _ (List.getElem_mem hi)).ex
    rw [aCy]
    simp only [Int.ofNat_lt, hi, decide_true, aD, Int.natCast_nonneg, Bool.and_true, Int.toNat_natCast, aH, aX (Nat.lt_of_lt_of_le hi hl), aP (fun e he => (hq e he).len), bJ hi]
    rw [he] at hci ⊢
    simp only [eJ, cY, dD, cQ, cJ, dA, fE, hci, Option.bind_some, bV, Bool.not_true, aC]
    exact ih
theorem aJz {es : List (List (aF false))} (hl : es.length ≤ maxLen) (hq : ∀ e ∈ es, eV e) (hd : ∀ e ∈ es, Dn F.aZc [.agg e, .agg e] [] = some (aJ true, [])) : Dn F.aYQ [vsl es, vsl es] [] = some (aJ true, []) := by
  refine aQ ?_
  rw [aK0]
  have := aJk hl hq hd 0 (Nat.zero_le _)
  simpa using this
theorem aOP {ls : List (aF false)} (h : eV ls) : Dn F.aZc [.agg ls, .agg ls] [] = some (aJ true, []) := by
  cases h with
  | mk i0 s1 h1 =>
    refine aQ ?_
    rw [aMP]
    simp []
theorem aGd {es : List (List (aF false))} (hl : es.length ≤ maxLen) (hq : ∀ e ∈ es, eV e) : Dn F.aYQ [vsl es, vsl es] [] = some (aJ true, []) := aJz hl hq fun e he => aOP (hq e he)
theorem aLl {es : List (List (aF false))} (hl : es.length ≤ maxLen) (hq : ∀ e ∈ es, eA e) (hd : ∀ e ∈ es, Dn F.aZZ [.agg e, .agg e] [] = some (aJ true, [])) : ∀ i : Nat, i ≤ es.length →
    mW Dn (aAg es es i) = some (aJ true, []) := by
  refine cU ?_ ?_
  · rw [aDy]; simp
  · intro i hi ih
    have hci := hd _ (List.getElem_mem hi)
    obtain ⟨i0, b1, s2, s3, e4, e5, e6, e7, e8, b9, e10, he, h2, h3, h4, q4, h5, q5, h6, q6, h7, q7, h8, q8, h10, q10⟩ := (hq _ (List.getElem_mem hi)).ex
    rw [aDy]
    simp only [Int.ofNat_lt, hi, decide_true, aD, Int.natCast_nonneg, Bool.and_true, Int.toNat_natCast, aH, aX (Nat.lt_of_lt_of_le hi hl), aP (fun e he => (hq e he).len), bJ hi]
    rw [he] at hci ⊢
    simp only [eJ, cY, dD, cQ, cJ, dA, fE, hci, Option.bind_some, bV, Bool.not_true, aC]
    exact ih
theorem aKT {es : List (List (aF false))} (hl : es.length ≤ maxLen) (hq : ∀ e ∈ es, eA e) (hd : ∀ e ∈ es, Dn F.aZZ [.agg e, .agg e] [] = some (aJ true, [])) : Dn F.aZd [vsl es, vsl es] [] = some (aJ true, []) := by
  refine aQ ?_
  rw [aMM]
  have := aLl hl hq hd 0 (Nat.zero_le _)
  simpa using this
theorem aPQ {ls : List (aF false)} (h : eA ls) : Dn F.aZZ [.agg ls, .agg ls] [] = some (aJ true, []) := by
  cases h with
  | mk i0 b1 s2 s3 e4 e5 e6 e7 e8 b9 e10 h2 h3 h4 q4 h5 q5 h6 q6 h7 q7 h8 q8 h10 q10 =>
    refine aQ ?_
    rw [aNy]
    have c4 := aDS h4 q4
    have c5 := aI7 h5 q5
    have c6 := aE1 h6 q6
    have c7 := aKo h7 q7
    have c8 := aGd h8 q8
    have c10 := zX h10 q10
    simp [c4, c5, c6, c7, c8, c10]
theorem aIh {es : List (List (aF false))} (hl : es.length ≤ maxLen) (hq : ∀ e ∈ es, eA e) : Dn F.aZd [vsl es, vsl es] [] = some (aJ true, []) := aKT hl hq fun e he => aPQ (hq e he)
theorem aMQ {ls : List (aF false)} (h : bL ls) : Dn F.aYD [.agg ls, .agg ls] [] = some (aJ true, []) := by
  cases h with
  | mk e0 e1 e2 h0 q0 h1 q1 h2 q2 =>
    refine aQ ?_
    rw [aJD]
    have c0 := aIh h0 q0
    have c1 := aIh h1 q1
    have c2 := aGd h2 q2
    simp [c0, c1, c2]
theorem aFX {es : List (List (aF false))} (hl : es.length ≤ maxLen) (hq : ∀ e ∈ es, dP e) (hd : ∀ e ∈ es, Dn F.aYh [.agg e, .agg e] [] = some (aJ true, [])) : ∀ i : Nat, i ≤ es.length →
    iP Dn (rR es es i) = some (aJ true, []) := by
  refine cU ?_ ?_
  · rw [aAv]; simp
  · intro i hi ih
    have hci := hd _ (List.getElem_mem hi)
    obtain ⟨i0, s1, s2, he⟩ := (hq _ (List.getElem_mem hi)).ex
    rw [aAv]
    simp only [Int.ofNat_lt, hi, decide_true, aD, Int.natCast_nonneg, Bool.and_true, Int.toNat_natCast, aH, aX (Nat.lt_of_lt_of_le hi hl), aP (fun e he => (hq e he).len), bJ hi]
    rw [he] at hci ⊢
    simp only [eJ, cY, dD, cQ, cJ, dA, fE, hci, Option.bind_some, bV, Bool.not_true, aC]
    exact ih
theorem aGv {es : List (List (aF false))} (hl : es.length ≤ maxLen) (hq : ∀ e ∈ es, dP e) (hd : ∀ e ∈ es, Dn F.aYh [.agg e, .agg e] [] = some (aJ true, [])) : Dn F.aX3 [vsl es, vsl es] [] = some (aJ true, []) := by
  refine aQ ?_
  rw [aHx]
  have := aFX hl hq hd 0 (Nat.zero_le _)
  simpa using this
theorem aLm {ls : List (aF false)} (h : dP ls) : Dn F.aYh [.agg ls, .agg ls] [] = some (aJ true, []) := by
  cases h with
  | mk i0 s1 s2 =>
    refine aQ ?_
    rw [aIO]
    simp []
theorem aJ5 {es : List (List (aF false))} (hl : es.length ≤ maxLen) (hq : ∀ e ∈ es, dP e) : Dn F.aX3 [vsl es, vsl es] [] = some (aJ true, []) := aGv hl hq fun e he => aLm (hq e he)
end Go.Vs
end
section
open Go Go.Vs Go.Proofs
set_option maxRecDepth 100000
set_option linter.unusedVariables false
namespace Go.Vs
noncomputable section
variable (D : cD true)
def aCc := atA D F.aYE
theorem aHG (c0_0 : Fl true) (e0_0 : LT) (c0_1 : Fl true) (e0_1 : LT) (c0_2 : Fl true) (e0_2 : LT) : aU Tryz.prog D Hs bN F.aYE [.agg [.sl c0_0 e0_0,.sl c0_1 e0_1,.sl c0_2 e0_2]] [] = (D F.aZC [.leaf (.sl c0_0 e0_0)] []).bind fun r => rD r.fst fun c es => (D F.aZC [.leaf (.sl c0_1 e0_1)] []).bind fun r => rD r.fst fun c_1 es_1 => (D F.aYY [.leaf (.sl c0_2 e0_2)] []).bind fun r => rD r.fst fun c_2 es_2 => some (.agg [.sl c es,.sl c_1 es_1,.sl c_2 es_2],[]) := by refine (aI (J := aCc D) (by kernel_rfl) (fun _ _ => rfl) []).trans ?_; generalize aCc D = J; revert J; refine id ?_; intro J; kernel_rfl
def aA4 := atA D F.aX0
theorem aFC (c0_0 : Fl true) (e0_0 : LT) (c0_1 : Fl true) (e0_1 : LT) (c0_2 : Fl true) (e0_2 : LT) (i1 : Int) : aU Tryz.prog D Hs bN F.aX0 [.agg [.sl c0_0 e0_0,.sl c0_1 e0_1,.sl c0_2 e0_2],.leaf (.int .i64 i1)] [] = (D F.aYH [.leaf (.sl c0_0 e0_0),.leaf (.int .i64 i1)] []).bind fun r => aS r.fst fun l => eF .i64 l fun n => (D F.aYH [.leaf (.sl c0_1 e0_1),.leaf (.int .i64 n)] []).bind fun r => aS r.fst fun l => eF .i64 l fun n => (D F.aYb [.leaf (.sl c0_2 e0_2),.leaf (.int .i64 n)] []).bind fun r => aS r.fst fun l => eF .i64 l fun n => some (.leaf (.int .i64 n),[]) := by refine (aI (J := aA4 D) (by kernel_rfl) (fun _ _ => rfl) []).trans ?_; generalize aA4 D = J; revert J; refine id ?_; intro J; kernel_rfl
section
variable (c0 : Fl true) (e0 : LT) (n3 : Nat) (i4 : Int) (vx7 : List (SV true))
def kA := atA D F.aZC
def vN : PT := ([1,1,0,1,0],St.mk ([.leaf (.sl c0 e0),.any,.any,.bsl 7 11 0 n3,.leaf (.int .i64 i4)] ++ bB 18) (noB 7 ++ [some vx7] ++ noB 15))
theorem aBB : kA D (vN c0 e0 n3 i4 vx7) = aA (decide (i4 < (↑e0.length : Int))) (aB (decide (0 ≤ i4) && decide (i4 < (↑e0.length : Int)) && sized 11 e0) (jB (e0.getD i4.toNat []) fun e => atK e 0 fun l => eF .i64 l fun n => atK e 1 fun l => eR l fun b => atK e 2 fun l => cR l fun s => atK e 3 fun l => cR l fun s_1 => atK e 4 fun l => slK l fun c es => atK e 5 fun l => slK l fun c_1 es_1 => atK e 6 fun l => slK l fun c_2 es_2 => atK e 7 fun l => slK l fun c_3 es_3 => atK e 8 fun l => slK l fun c_4 es_4 => atK e 9 fun l => eR l fun b_1 => atK e 10 fun l => slK l fun c_5 es_5 => (D F.aZS [.agg [.int .i64 n,.bool b,.str s,.str s_1,.sl c es,.sl c_1 es_1,.sl c_2 es_2,.sl c_3 es_3,.sl c_4 es_4,.bool b_1,.sl c_5 es_5]] []).bind fun r => gK r.fst fun cs => aB (cs.length == 11) (atK cs 0 fun l => eF .i64 l fun n => atK cs 1 fun l => eR l fun b => atK cs 2 fun l => cR l fun s => atK cs 3 fun l => cR l fun s_2 => atK cs 4 fun l => slK l fun c es => atK cs 5 fun l => slK l fun c_6 es_6 => atK cs 6 fun l => slK l fun c_7 es_7 => atK cs 7 fun l => slK l fun c_8 es_8 => atK cs 8 fun l => slK l fun c_9 es_9 => atK cs 9 fun l => eR l fun b_2 => atK cs 10 fun l => slK l fun c_10 es_10 => aB (decide (0 ≤ i4) && decide (i4 < (↑n3 : Int))) (aB (decide ((0 + i4.toNat) * 11 + 11 ≤ vx7.length)) (kA D (vN c0 e0 n3 (IntKind.i64.wrap (i4 + 1)) (mC vx7 ((0 + i4.toNat) * 11) [.leaf (.int .i64 n),.leaf (.bool b),.leaf (.str s),.leaf (.str s_2),.leaf (.sl c es),.leaf (.sl c_6 es_6),.leaf (.sl c_7 es_7),.leaf (.sl c_8 es_8),.leaf (.sl c_9 es_9),.leaf (.bool b_2),.leaf (.sl c_10 es_10)]))))))) ((if n3 * 11 ≤ vx7.length ∧ 0 < 11 then match dV (List.take (n3 * 11) vx7) with | some x => some ((fun l => .leaf (.sl (Fl.new true) (qB 11 n3 l))) x) | none => none else none).bind fun v => aB v.flatT (some (v,[]))) := by refine (aL (J := kA D) (fun _ _ => rfl) [[1,1,0,1,0]] _).trans ?_; generalize kA D = J; revert J; refine id ?_; intro J; kernel_rfl
theorem aKj : aU Tryz.prog D Hs bN F.aZC [.leaf (.sl c0 e0)] [] = aB ((↑e0.length : Int) == (↑e0.length : Int) && decide ((↑e0.length : Int).toNat * 200 ≤ aO) && decide ((↑e0.length : Int).toNat ≤ aO)) (kA D (vN c0 e0 (decide (0 ≤ (↑e0.length : Int)) && (↑e0.length : Int) == (↑e0.length : Int) && decide ((↑e0.length : Int).toNat * Tryz.prog.types[71].bytes ≤ aO) && decide ((↑e0.length : Int).toNat ≤ aO),(Tryz.prog.types[71].size,(↑e0.length : Int).toNat),List.map SV.leaf (List.replicate (↑e0.length : Int).toNat ((fun (x : List (aF true)) => .int .i64 0 :: x) ((fun (x : List (aF true)) => .bool false :: x) ((fun (x : List (aF true)) => .str (ByteArray.mk #[]) :: x) ((fun (x : List (aF true)) => .str (ByteArray.mk #[]) :: x) ((fun (x : List (aF true)) => .sl (Fl.new true) [] :: x) ((fun (x : List (aF true)) => .sl (Fl.new true) [] :: x) ((fun (x : List (aF true)) => .sl (Fl.new true) [] :: x) ((fun (x : List (aF true)) => .sl (Fl.new true) [] :: x) ((fun (x : List (aF true)) => .sl (Fl.new true) [] :: x) ((fun (x : List (aF true)) => .bool false :: x) ((fun (x : List (aF true)) => .sl (Fl.new true) [] :: x) [])))))))))))).flatten).snd.fst.snd 0 (decide (0 ≤ (↑e0.length : Int)) && (↑e0.length : Int) == (↑e0.length : Int) && decide ((↑e0.length : Int).toNat * Tryz.prog.types[71].bytes ≤ aO) && decide ((↑e0.length : Int).toNat ≤ aO),(Tryz.prog.types[71].size,(↑e0.length : Int).toNat),List.map SV.leaf (List.replicate (↑e0.length : Int).toNat ((fun (x : List (aF true)) => .int .i64 0 :: x) ((fun (x : List (aF true)) => .bool false :: x) ((fun (x : List (aF true)) => .str (ByteArray.mk #[]) :: x) ((fun (x : List (aF true)) => .str (ByteArray.mk #[]) :: x) ((fun (x : List (aF true)) => .sl (Fl.new true) [] :: x) ((fun (x : List (aF true)) => .sl (Fl.new true) [] :: x) ((fun (x : List (aF true)) => .sl (Fl.new true) [] :: x) ((fun (x : List (aF true)) => .sl (Fl.new true) [] :: x) ((fun (x : List (aF true)) => .sl (Fl.new true) [] :: x) ((fun (x : List (aF true)) => .bool false :: x) ((fun (x : List (aF true)) => .sl (Fl.new true) [] :: x) [])))))))))))).flatten).snd.snd)) := by refine (aI (J := kA D) (by kernel_rfl) (fun _ _ => rfl) [[1,1,0,1,0]]).trans ?_; generalize kA D = J; revert J; refine id ?_; intro J; kernel_rfl
end
section
variable (c0 : Fl true) (e0 : LT) (n3 : Nat) (i4 : Int) (vx7 : List (SV true))
def jH := atA D F.aYY
def tO : PT := ([1,1,0,1,0],St.mk ([.leaf (.sl c0 e0),.any,.any,.bsl 7 2 0 n3,.leaf (.int .i64 i4)] ++ bB 18) (noB 7 ++ [some vx7] ++ noB 15))
theorem aBb : jH D (tO c0 e0 n3 i4 vx7) = aA (decide (i4 < (↑e0.length : Int))) (aB (decide (0 ≤ i4) && decide (i4 < (↑e0.length : Int)) && sized 2 e0) (jB (e0.getD i4.toNat []) fun e => atK e 0 fun l => eF .i64 l fun n => atK e 1 fun l => cR l fun s => (D F.aZk [.agg [.int .i64 n,.str s]] []).bind fun r => gK r.fst fun cs => aB (cs.length == 2) (atK cs 0 fun l => eF .i64 l fun n => atK cs 1 fun l => cR l fun s => aB (decide (0 ≤ i4) && decide (i4 < (↑n3 : Int))) (aB (decide ((0 + i4.toNat) * 2 + 2 ≤ vx7.length)) (jH D (tO c0 e0 n3 (IntKind.i64.wrap (i4 + 1)) (mC vx7 ((0 + i4.toNat) * 2) [.leaf (.int .i64 n),.leaf (.str s)]))))))) ((if n3 * 2 ≤ vx7.length ∧ 0 < 2 then match dV (List.take (n3 * 2) vx7) with | some x => some ((fun l => .leaf (.sl (Fl.new true) (qB 2 n3 l))) x) | none => none else none).bind fun v => aB v.flatT (some (v,[]))) := by refine (aL (J := jH D) (fun _ _ => rfl) [[1,1,0,1,0]] _).trans ?_; generalize jH D = J; revert J; refine id ?_; intro J; kernel_rfl
theorem aIS : aU Tryz.prog D Hs bN F.aYY [.leaf (.sl c0 e0)] [] = aB ((↑e0.length : Int) == (↑e0.length : Int) && decide ((↑e0.length : Int).toNat * 24 ≤ aO) && decide ((↑e0.length : Int).toNat ≤ aO)) (jH D (tO c0 e0 (decide (0 ≤ (↑e0.length : Int)) && (↑e0.length : Int) == (↑e0.length : Int) && decide ((↑e0.length : Int).toNat * Tryz.prog.types[185].bytes ≤ aO) && decide ((↑e0.length : Int).toNat ≤ aO),(Tryz.prog.types[185].size,(↑e0.length : Int).toNat),List.map SV.leaf (List.replicate (↑e0.length : Int).toNat ((fun (x : List (aF true)) => .int .i64 0 :: x) ((fun (x : List (aF true)) => .str (ByteArray.mk #[]) :: x) []))).flatten).snd.fst.snd 0 (decide (0 ≤ (↑e0.length : Int)) && (↑e0.length : Int) == (↑e0.length : Int) && decide ((↑e0.length : Int).toNat * Tryz.prog.types[185].bytes ≤ aO) && decide ((↑e0.length : Int).toNat ≤ aO),(Tryz.prog.types[185].size,(↑e0.length : Int).toNat),List.map SV.leaf (List.replicate (↑e0.length : Int).toNat ((fun (x : List (aF true)) => .int .i64 0 :: x) ((fun (x : List (aF true)) => .str (ByteArray.mk #[]) :: x) []))).flatten).snd.snd)) := by refine (aI (J := jH D) (by kernel_rfl) (fun _ _ => rfl) [[1,1,0,1,0]]).trans ?_; generalize jH D = J; revert J; refine id ?_; intro J; kernel_rfl
end
section
variable (c0 : Fl true) (e0 : LT) (i1 i5 : Int)
def iQ := atA D F.aYH
def sB : PT := ([1,0,1,0],St.mk ([.leaf (.sl c0 e0),.leaf (.int .i64 i1),.any,.any,.any,.leaf (.int .i64 i5)] ++ bB 90) (noB 96))
theorem aAD : iQ D (sB c0 e0 i1 i5) = aA (decide (i5 < (↑e0.length : Int))) (aB (decide (0 ≤ i5) && decide (i5 < (↑e0.length : Int)) && sized 11 e0) (if (c0.isSoft = true ∧ fL (e0.getD i5.toNat []) 0 = true) ∧ ((.leaf (.int .i64 i1) : SV true)).plain = true ∧ eX Tryz.prog 3 = some 1 then aB (decide (0 ≤ i5) && decide (i5 < (↑e0.length : Int)) && sized 11 e0) (if (c0.isSoft = true ∧ fL (e0.getD i5.toNat []) 1 = true) ∧ ((.leaf (.bool ((IntKind.i64.wrap (i1 + 1)).tmod 3 == 0)) : SV true)).plain = true ∧ eX Tryz.prog 4 = some 1 then (D F.aYs [.leaf (.int .i64 (IntKind.i64.wrap (IntKind.i64.wrap (i1 + 1) + 1)))] []).bind fun r => aS r.fst fun l => cR l fun s => aB (decide (0 ≤ i5) && decide (i5 < (↑e0.length : Int)) && sized 11 e0) (if (c0.isSoft = true ∧ fL (e0.getD i5.toNat []) 2 = true) ∧ ((.leaf (.str s) : SV true)).plain = true ∧ eX Tryz.prog 9 = some 1 then (D F.aYs [.leaf (.int .i64 (IntKind.i64.wrap (IntKind.i64.wrap (IntKind.i64.wrap (i1 + 1) + 1) + 1)))] []).bind fun r => aS r.fst fun l => cR l fun s => aB (decide (0 ≤ i5) && decide (i5 < (↑e0.length : Int)) && sized 11 e0) (if (c0.isSoft = true ∧ fL (e0.getD i5.toNat []) 3 = true) ∧ ((.leaf (.str s) : SV true)).plain = true ∧ eX Tryz.prog 9 = some 1 then aB (decide (0 ≤ i5) && decide (i5 < (↑e0.length : Int)) && sized 11 e0) (atK (e0.getD i5.toNat []) 4 fun l => slK l fun c es => (D F.aXQ [.leaf (.sl c es),.leaf (.int .i64 (IntKind.i64.wrap (IntKind.i64.wrap (IntKind.i64.wrap (IntKind.i64.wrap (i1 + 1) + 1) + 1) + 1)))] []).bind fun r => aS r.fst fun l => eF .i64 l fun n => aB (decide (0 ≤ i5) && decide (i5 < (↑e0.length : Int)) && sized 11 e0) (atK (e0.getD i5.toNat []) 5 fun l => slK l fun c es => (D F.aXB [.leaf (.sl c es),.leaf (.int .i64 n)] []).bind fun r => aS r.fst fun l => eF .i64 l fun n => aB (decide (0 ≤ i5) && decide (i5 < (↑e0.length : Int)) && sized 11 e0) (atK (e0.getD i5.toNat []) 6 fun l => slK l fun c es => (D F.aXU [.leaf (.sl c es),.leaf (.int .i64 n)] []).bind fun r => aS r.fst fun l => eF .i64 l fun n => aB (decide (0 ≤ i5) && decide (i5 < (↑e0.length : Int)) && sized 11 e0) (atK (e0.getD i5.toNat []) 7 fun l => slK l fun c es => (D F.aXC [.leaf (.sl c es),.leaf (.int .i64 n)] []).bind fun r => aS r.fst fun l => eF .i64 l fun n => aB (decide (0 ≤ i5) && decide (i5 < (↑e0.length : Int)) && sized 11 e0) (atK (e0.getD i5.toNat []) 8 fun l => slK l fun c es => (D F.aYb [.leaf (.sl c es),.leaf (.int .i64 n)] []).bind fun r => aS r.fst fun l => eF .i64 l fun n => aB (decide (0 ≤ i5) && decide (i5 < (↑e0.length : Int)) && sized 11 e0) (if (c0.isSoft = true ∧ fL (e0.getD i5.toNat []) 9 = true) ∧ ((.leaf (.bool (n.tmod 3 == 0)) : SV true)).plain = true ∧ eX Tryz.prog 4 = some 1 then aB (decide (0 ≤ i5) && decide (i5 < (↑e0.length : Int)) && sized 11 e0) (atK (e0.getD i5.toNat []) 10 fun l => slK l fun c es => (D F.aYx [.leaf (.sl c es),.leaf (.int .i64 (IntKind.i64.wrap (n + 1)))] []).bind fun r => aS r.fst fun l => eF .i64 l fun n => iQ D (sB c0 e0 n (IntKind.i64.wrap (i5 + 1)))) else none)))))) else none) else none) else none) else none)) (some (.leaf (.int .i64 i1),[])) := by refine (aL (J := iQ D) (fun _ _ => rfl) [[1,0,1,0]] _).trans ?_; generalize iQ D = J; revert J; refine id ?_; intro J; kernel_rfl
theorem aHA : aU Tryz.prog D Hs bN F.aYH [.leaf (.sl c0 e0),.leaf (.int .i64 i1)] [] = iQ D (sB c0 e0 i1 0) := by refine (aI (J := iQ D) (by kernel_rfl) (fun _ _ => rfl) [[1,0,1,0]]).trans ?_; generalize iQ D = J; revert J; refine id ?_; intro J; kernel_rfl
end
section
variable (c0 : Fl true) (e0 : LT) (i1 i5 : Int)
def gM := atA D F.aYb
def qU : PT := ([1,0,1,0],St.mk ([.leaf (.sl c0 e0),.leaf (.int .i64 i1),.any,.any,.any,.leaf (.int .i64 i5)] ++ bB 22) (noB 28))
theorem zE : gM D (qU c0 e0 i1 i5) = aA (decide (i5 < (↑e0.length : Int))) (aB (decide (0 ≤ i5) && decide (i5 < (↑e0.length : Int)) && sized 2 e0) (if (c0.isSoft = true ∧ fL (e0.getD i5.toNat []) 0 = true) ∧ ((.leaf (.int .i64 i1) : SV true)).plain = true ∧ eX Tryz.prog 3 = some 1 then (D F.aYs [.leaf (.int .i64 (IntKind.i64.wrap (i1 + 1)))] []).bind fun r => aS r.fst fun l => cR l fun s => aB (decide (0 ≤ i5) && decide (i5 < (↑e0.length : Int)) && sized 2 e0) (if (c0.isSoft = true ∧ fL (e0.getD i5.toNat []) 1 = true) ∧ ((.leaf (.str s) : SV true)).plain = true ∧ eX Tryz.prog 9 = some 1 then gM D (qU c0 e0 (IntKind.i64.wrap (IntKind.i64.wrap (i1 + 1) + 1)) (IntKind.i64.wrap (i5 + 1))) else none) else none)) (some (.leaf (.int .i64 i1),[])) := by refine (aL (J := gM D) (fun _ _ => rfl) [[1,0,1,0]] _).trans ?_; generalize gM D = J; revert J; refine id ?_; intro J; kernel_rfl
theorem aFP : aU Tryz.prog D Hs bN F.aYb [.leaf (.sl c0 e0),.leaf (.int .i64 i1)] [] = gM D (qU c0 e0 i1 0) := by refine (aI (J := gM D) (by kernel_rfl) (fun _ _ => rfl) [[1,0,1,0]]).trans ?_; generalize gM D = J; revert J; refine id ?_; intro J; kernel_rfl
end
def aGD := atA D F.aZS
theorem aKK (i0_0 : Int) (b0_1 : Bool) (s0_2 s0_3 : ByteArray) (c0_4 : Fl true) (e0_4 : LT) (c0_5 : Fl true) (e0_5 : LT) (c0_6 : Fl true) (e0_6 : LT) (c0_7 : Fl true) (e0_7 : LT) (c0_8 : Fl true) (e0_8 : LT) (b0_9 : Bool) (c0_10 : Fl true) (e0_10 : LT) : aU Tryz.prog D Hs bN F.aZS [.agg [.int .i64 i0_0,.bool b0_1,.str s0_2,.str s0_3,.sl c0_4 e0_4,.sl c0_5 e0_5,.sl c0_6 e0_6,.sl c0_7 e0_7,.sl c0_8 e0_8,.bool b0_9,.sl c0_10 e0_10]] [] = (D F.aYl [.leaf (.sl c0_4 e0_4)] []).bind fun r => rD r.fst fun c es => (D F.aXS [.leaf (.sl c0_5 e0_5)] []).bind fun r => rD r.fst fun c_1 es_1 => (D F.aYB [.leaf (.sl c0_6 e0_6)] []).bind fun r => rD r.fst fun c_2 es_2 => (D F.aXV [.leaf (.sl c0_7 e0_7)] []).bind fun r => rD r.fst fun c_3 es_3 => (D F.aYY [.leaf (.sl c0_8 e0_8)] []).bind fun r => rD r.fst fun c_4 es_4 => (D F.aZv [.leaf (.sl c0_10 e0_10)] []).bind fun r => rD r.fst fun c_5 es_5 => some (.agg [.int .i64 i0_0,.bool b0_1,.str s0_2,.str s0_3,.sl c es,.sl c_1 es_1,.sl c_2 es_2,.sl c_3 es_3,.sl c_4 es_4,.bool b0_9,.sl c_5 es_5],[]) := by refine (aI (J := aGD D) (by kernel_rfl) (fun _ _ => rfl) []).trans ?_; generalize aGD D = J; revert J; refine id ?_; intro J; kernel_rfl
def aE7 := atA D F.aZk
theorem aKl (i0_0 : Int) (s0_1 : ByteArray) : aU Tryz.prog D Hs bN F.aZk [.agg [.int .i64 i0_0,.str s0_1]] [] = some (.agg [.int .i64 i0_0,.str s0_1],[]) := by refine (aI (J := aE7 D) (by kernel_rfl) (fun _ _ => rfl) []).trans ?_; generalize aE7 D = J; revert J; refine id ?_; intro J; kernel_rfl
section
variable (c0 : Fl true) (e0 : LT) (i1 i5 : Int)
def fG := atA D F.aXQ
def oR : PT := ([1,0,1,0],St.mk ([.leaf (.sl c0 e0),.leaf (.int .i64 i1),.any,.any,.any,.leaf (.int .i64 i5)] ++ bB 14) (noB 20))
theorem wG : fG D (oR c0 e0 i1 i5) = aA (decide (i5 < (↑e0.length : Int))) ((D F.aYs [.leaf (.int .i64 i1)] []).bind fun r => aS r.fst fun l => cR l fun s => aB (decide (0 ≤ i5) && decide (i5 < (↑e0.length : Int)) && sized 1 e0) (if (c0.isSoft = true ∧ fL (e0.getD i5.toNat []) 0 = true) ∧ ((.leaf (.str s) : SV true)).plain = true ∧ eX Tryz.prog 9 = some 1 then fG D (oR c0 e0 (IntKind.i64.wrap (i1 + 1)) (IntKind.i64.wrap (i5 + 1))) else none)) (some (.leaf (.int .i64 i1),[])) := by refine (aL (J := fG D) (fun _ _ => rfl) [[1,0,1,0]] _).trans ?_; generalize fG D = J; revert J; refine id ?_; intro J; kernel_rfl
theorem aD0 : aU Tryz.prog D Hs bN F.aXQ [.leaf (.sl c0 e0),.leaf (.int .i64 i1)] [] = fG D (oR c0 e0 i1 0) := by refine (aI (J := fG D) (by kernel_rfl) (fun _ _ => rfl) [[1,0,1,0]]).trans ?_; generalize fG D = J; revert J; refine id ?_; intro J; kernel_rfl
end
section
variable (c0 : Fl true) (e0 : LT) (i1 i5 : Int)
def eQ := atA D F.aXB
def mH : PT := ([1,0,1,0],St.mk ([.leaf (.sl c0 e0),.leaf (.int .i64 i1),.any,.any,.any,.leaf (.int .i64 i5)] ++ bB 55) (noB 61))
theorem tU : eQ D (mH c0 e0 i1 i5) = aA (decide (i5 < (↑e0.length : Int))) ((D F.aYs [.leaf (.int .i64 i1)] []).bind fun r => aS r.fst fun l => cR l fun s => aB (decide (0 ≤ i5) && decide (i5 < (↑e0.length : Int)) && sized 6 e0) (if (c0.isSoft = true ∧ fL (e0.getD i5.toNat []) 0 = true) ∧ ((.leaf (.str s) : SV true)).plain = true ∧ eX Tryz.prog 9 = some 1 then (D F.aYs [.leaf (.int .i64 (IntKind.i64.wrap (i1 + 1)))] []).bind fun r => aS r.fst fun l => cR l fun s => aB (decide (0 ≤ i5) && decide (i5 < (↑e0.length : Int)) && sized 6 e0) (if (c0.isSoft = true ∧ fL (e0.getD i5.toNat []) 1 = true) ∧ ((.leaf (.str s) : SV true)).plain = true ∧ eX Tryz.prog 9 = some 1 then aB (decide (0 ≤ i5) && decide (i5 < (↑e0.length : Int)) && sized 6 e0) (atK (e0.getD i5.toNat []) 2 fun l => slK l fun c es => (D F.aXU [.leaf (.sl c es),.leaf (.int .i64 (IntKind.i64.wrap (IntKind.i64.wrap (i1 + 1) + 1)))] []).bind fun r => aS r.fst fun l => eF .i64 l fun n => (D F.aYs [.leaf (.int .i64 n)] []).bind fun r => aS r.fst fun l => cR l fun s => aB (decide (0 ≤ i5) && decide (i5 < (↑e0.length : Int)) && sized 6 e0) (if (c0.isSoft = true ∧ fL (e0.getD i5.toNat []) 3 = true) ∧ ((.leaf (.str s) : SV true)).plain = true ∧ eX Tryz.prog 9 = some 1 then (D F.aYs [.leaf (.int .i64 (IntKind.i64.wrap (n + 1)))] []).bind fun r => aS r.fst fun l => cR l fun s => aB (decide (0 ≤ i5) && decide (i5 < (↑e0.length : Int)) && sized 6 e0) (if (c0.isSoft = true ∧ fL (e0.getD i5.toNat []) 4 = true) ∧ ((.leaf (.str s) : SV true)).plain = true ∧ eX Tryz.prog 9 = some 1 then aB (decide (0 ≤ i5) && decide (i5 < (↑e0.length : Int)) && sized 6 e0) (atK (e0.getD i5.toNat []) 5 fun l => slK l fun c es => (D F.aYx [.leaf (.sl c es),.leaf (.int .i64 (IntKind.i64.wrap (IntKind.i64.wrap (n + 1) + 1)))] []).bind fun r => aS r.fst fun l => eF .i64 l fun n => eQ D (mH c0 e0 n (IntKind.i64.wrap (i5 + 1)))) else none) else none)) else none) else none)) (some (.leaf (.int .i64 i1),[])) := by refine (aL (J := eQ D) (fun _ _ => rfl) [[1,0,1,0]] _).trans ?_; generalize eQ D = J; revert J; refine id ?_; intro J; kernel_rfl
theorem aCN : aU Tryz.prog D Hs bN F.aXB [.leaf (.sl c0 e0),.leaf (.int .i64 i1)] [] = eQ D (mH c0 e0 i1 0) := by refine (aI (J := eQ D) (by kernel_rfl) (fun _ _ => rfl) [[1,0,1,0]]).trans ?_; generalize eQ D = J; revert J; refine id ?_; intro J; kernel_rfl
end
section
variable (c0 : Fl true) (e0 : LT) (i1 i5 : Int)
def fZ := atA D F.aXU
def pS : PT := ([1,0,1,0],St.mk ([.leaf (.sl c0 e0),.leaf (.int .i64 i1),.any,.any,.any,.leaf (.int .i64 i5)] ++ bB 90) (noB 96))
theorem xY : fZ D (pS c0 e0 i1 i5) = aA (decide (i5 < (↑e0.length : Int))) ((D F.aYs [.leaf (.int .i64 i1)] []).bind fun r => aS r.fst fun l => cR l fun s => aB (decide (0 ≤ i5) && decide (i5 < (↑e0.length : Int)) && sized 10 e0) (if (c0.isSoft = true ∧ fL (e0.getD i5.toNat []) 0 = true) ∧ ((.leaf (.str s) : SV true)).plain = true ∧ eX Tryz.prog 9 = some 1 then (D F.aYs [.leaf (.int .i64 (IntKind.i64.wrap (i1 + 1)))] []).bind fun r => aS r.fst fun l => cR l fun s => aB (decide (0 ≤ i5) && decide (i5 < (↑e0.length : Int)) && sized 10 e0) (if (c0.isSoft = true ∧ fL (e0.getD i5.toNat []) 1 = true) ∧ ((.leaf (.str s) : SV true)).plain = true ∧ eX Tryz.prog 9 = some 1 then (D F.aYs [.leaf (.int .i64 (IntKind.i64.wrap (IntKind.i64.wrap (i1 + 1) + 1)))] []).bind fun r => aS r.fst fun l => cR l fun s => aB (decide (0 ≤ i5) && decide (i5 < (↑e0.length : Int)) && sized 10 e0) (if (c0.isSoft = true ∧ fL (e0.getD i5.toNat []) 2 = true) ∧ ((.leaf (.str s) : SV true)).plain = true ∧ eX Tryz.prog 9 = some 1 then (D F.aYs [.leaf (.int .i64 (IntKind.i64.wrap (IntKind.i64.wrap (IntKind.i64.wrap (i1 + 1) + 1) + 1)))] []).bind fun r => aS r.fst fun l => cR l fun s => aB (decide (0 ≤ i5) && decide (i5 < (↑e0.length : Int)) && sized 10 e0) (if (c0.isSoft = true ∧ fL (e0.getD i5.toNat []) 3 = true) ∧ ((.leaf (.str s) : SV true)).plain = true ∧ eX Tryz.prog 9 = some 1 then aB (decide (0 ≤ i5) && decide (i5 < (↑e0.length : Int)) && sized 10 e0) (if (c0.isSoft = true ∧ fL (e0.getD i5.toNat []) 4 = true) ∧ ((.leaf (.bool ((IntKind.i64.wrap (IntKind.i64.wrap (IntKind.i64.wrap (IntKind.i64.wrap (i1 + 1) + 1) + 1) + 1)).tmod 3 == 0)) : SV true)).plain = true ∧ eX Tryz.prog 4 = some 1 then aB (decide (0 ≤ i5) && decide (i5 < (↑e0.length : Int)) && sized 10 e0) (if (c0.isSoft = true ∧ fL (e0.getD i5.toNat []) 5 = true) ∧ ((.leaf (.int .i64 (IntKind.i64.wrap (IntKind.i64.wrap (IntKind.i64.wrap (IntKind.i64.wrap (IntKind.i64.wrap (i1 + 1) + 1) + 1) + 1) + 1))) : SV true)).plain = true ∧ eX Tryz.prog 3 = some 1 then (D F.aYs [.leaf (.int .i64 (IntKind.i64.wrap (IntKind.i64.wrap (IntKind.i64.wrap (IntKind.i64.wrap (IntKind.i64.wrap (IntKind.i64.wrap (i1 + 1) + 1) + 1) + 1) + 1) + 1)))] []).bind fun r => aS r.fst fun l => cR l fun s => aB (decide (0 ≤ i5) && decide (i5 < (↑e0.length : Int)) && sized 10 e0) (if (c0.isSoft = true ∧ fL (e0.getD i5.toNat []) 6 = true) ∧ ((.leaf (.str s) : SV true)).plain = true ∧ eX Tryz.prog 9 = some 1 then aB (decide (0 ≤ i5) && decide (i5 < (↑e0.length : Int)) && sized 10 e0) (atK (e0.getD i5.toNat []) 7 fun l => slK l fun c es => (D F.aX1 [.leaf (.sl c es),.leaf (.int .i64 (IntKind.i64.wrap (IntKind.i64.wrap (IntKind.i64.wrap (IntKind.i64.wrap (IntKind.i64.wrap (IntKind.i64.wrap (IntKind.i64.wrap (i1 + 1) + 1) + 1) + 1) + 1) + 1) + 1)))] []).bind fun r => aS r.fst fun l => eF .i64 l fun n => aB (decide (0 ≤ i5) && decide (i5 < (↑e0.length : Int)) && sized 10 e0) (atK (e0.getD i5.toNat []) 8 fun l => slK l fun c es => (D F.aXQ [.leaf (.sl c es),.leaf (.int .i64 n)] []).bind fun r => aS r.fst fun l => eF .i64 l fun n => aB (decide (0 ≤ i5) && decide (i5 < (↑e0.length : Int)) && sized 10 e0) (atK (e0.getD i5.toNat []) 9 fun l => slK l fun c es => (D F.aYx [.leaf (.sl c es),.leaf (.int .i64 n)] []).bind fun r => aS r.fst fun l => eF .i64 l fun n => fZ D (pS c0 e0 n (IntKind.i64.wrap (i5 + 1)))))) else none) else none) else none) else none) else none) else none) else none)) (some (.leaf (.int .i64 i1),[])) := by refine (aL (J := fZ D) (fun _ _ => rfl) [[1,0,1,0]] _).trans ?_; generalize fZ D = J; revert J; refine id ?_; intro J; kernel_rfl
theorem aFG : aU Tryz.prog D Hs bN F.aXU [.leaf (.sl c0 e0),.leaf (.int .i64 i1)] [] = fZ D (pS c0 e0 i1 0) := by refine (aI (J := fZ D) (by kernel_rfl) (fun _ _ => rfl) [[1,0,1,0]]).trans ?_; generalize fZ D = J; revert J; refine id ?_; intro J; kernel_rfl
end
section
variable (c0 : Fl true) (e0 : LT) (i1 i5 : Int)
def fA := atA D F.aXC
def nO : PT := ([1,0,1,0],St.mk ([.leaf (.sl c0 e0),.leaf (.int .i64 i1),.any,.any,.any,.leaf (.int .i64 i5)] ++ bB 30) (noB 36))
theorem uZ : fA D (nO c0 e0 i1 i5) = aA (decide (i5 < (↑e0.length : Int))) ((D F.aYs [.leaf (.int .i64 i1)] []).bind fun r => aS r.fst fun l => cR l fun s => aB (decide (0 ≤ i5) && decide (i5 < (↑e0.length : Int)) && sized 3 e0) (if (c0.isSoft = true ∧ fL (e0.getD i5.toNat []) 0 = true) ∧ ((.leaf (.str s) : SV true)).plain = true ∧ eX Tryz.prog 9 = some 1 then (D F.aYs [.leaf (.int .i64 (IntKind.i64.wrap (i1 + 1)))] []).bind fun r => aS r.fst fun l => cR l fun s => aB (decide (0 ≤ i5) && decide (i5 < (↑e0.length : Int)) && sized 3 e0) (if (c0.isSoft = true ∧ fL (e0.getD i5.toNat []) 1 = true) ∧ ((.leaf (.str s) : SV true)).plain = true ∧ eX Tryz.prog 9 = some 1 then aB (decide (0 ≤ i5) && decide (i5 < (↑e0.length : Int)) && sized 3 e0) (atK (e0.getD i5.toNat []) 2 fun l => slK l fun c es => (D F.aYx [.leaf (.sl c es),.leaf (.int .i64 (IntKind.i64.wrap (IntKind.i64.wrap (i1 + 1) + 1)))] []).bind fun r => aS r.fst fun l => eF .i64 l fun n => fA D (nO c0 e0 n (IntKind.i64.wrap (i5 + 1)))) else none) else none)) (some (.leaf (.int .i64 i1),[])) := by refine (aL (J := fA D) (fun _ _ => rfl) [[1,0,1,0]] _).trans ?_; generalize fA D = J; revert J; refine id ?_; intro J; kernel_rfl
theorem aDb : aU Tryz.prog D Hs bN F.aXC [.leaf (.sl c0 e0),.leaf (.int .i64 i1)] [] = fA D (nO c0 e0 i1 0) := by refine (aI (J := fA D) (by kernel_rfl) (fun _ _ => rfl) [[1,0,1,0]]).trans ?_; generalize fA D = J; revert J; refine id ?_; intro J; kernel_rfl
end
section
variable (c0 : Fl true) (e0 : LT) (i1 i5 : Int)
def iO := atA D F.aYx
def rY : PT := ([1,0,1,0],St.mk ([.leaf (.sl c0 e0),.leaf (.int .i64 i1),.any,.any,.any,.leaf (.int .i64 i5)] ++ bB 22) (noB 28))
theorem aAH : iO D (rY c0 e0 i1 i5) = aA (decide (i5 < (↑e0.length : Int))) ((D F.aYs [.leaf (.int .i64 i1)] []).bind fun r => aS r.fst fun l => cR l fun s => aB (decide (0 ≤ i5) && decide (i5 < (↑e0.length : Int)) && sized 2 e0) (if (c0.isSoft = true ∧ fL (e0.getD i5.toNat []) 0 = true) ∧ ((.leaf (.str s) : SV true)).plain = true ∧ eX Tryz.prog 9 = some 1 then aB (decide (0 ≤ i5) && decide (i5 < (↑e0.length : Int)) && sized 2 e0) (atK (e0.getD i5.toNat []) 1 fun l => slK l fun c es => (D F.aYu [.leaf (.sl c es),.leaf (.int .i64 (IntKind.i64.wrap (i1 + 1)))] []).bind fun r => aS r.fst fun l => eF .i64 l fun n => iO D (rY c0 e0 n (IntKind.i64.wrap (i5 + 1)))) else none)) (some (.leaf (.int .i64 i1),[])) := by refine (aL (J := iO D) (fun _ _ => rfl) [[1,0,1,0]] _).trans ?_; generalize iO D = J; revert J; refine id ?_; intro J; kernel_rfl
theorem aHD : aU Tryz.prog D Hs bN F.aYx [.leaf (.sl c0 e0),.leaf (.int .i64 i1)] [] = iO D (rY c0 e0 i1 0) := by refine (aI (J := iO D) (by kernel_rfl) (fun _ _ => rfl) [[1,0,1,0]]).trans ?_; generalize iO D = J; revert J; refine id ?_; intro J; kernel_rfl
end
section
variable (c0 : Fl true) (e0 : LT) (n3 : Nat) (i4 : Int) (vx7 : List (SV true))
def gX := atA D F.aYl
def qV : PT := ([1,1,0,1,0],St.mk ([.leaf (.sl c0 e0),.any,.any,.bsl 7 1 0 n3,.leaf (.int .i64 i4)] ++ bB 17) (noB 7 ++ [some vx7] ++ noB 14))
theorem zD : gX D (qV c0 e0 n3 i4 vx7) = aA (decide (i4 < (↑e0.length : Int))) (aB (decide (0 ≤ i4) && decide (i4 < (↑e0.length : Int)) && sized 1 e0) (atK (e0.getD i4.toNat []) 0 fun l => cR l fun s => aB (decide (0 ≤ i4) && decide (i4 < (↑n3 : Int))) (aB (decide ((0 + i4.toNat) * 1 + 1 ≤ vx7.length)) (gX D (qV c0 e0 n3 (IntKind.i64.wrap (i4 + 1)) (mC vx7 ((0 + i4.toNat) * 1) [.leaf (.str s)])))))) ((if n3 * 1 ≤ vx7.length ∧ 0 < 1 then match dV (List.take (n3 * 1) vx7) with | some x => some ((fun l => .leaf (.sl (Fl.new true) (qB 1 n3 l))) x) | none => none else none).bind fun v => aB v.flatT (some (v,[]))) := by refine (aL (J := gX D) (fun _ _ => rfl) [[1,1,0,1,0]] _).trans ?_; generalize gX D = J; revert J; refine id ?_; intro J; kernel_rfl
theorem aGw : aU Tryz.prog D Hs bN F.aYl [.leaf (.sl c0 e0)] [] = aB ((↑e0.length : Int) == (↑e0.length : Int) && decide ((↑e0.length : Int).toNat * 16 ≤ aO) && decide ((↑e0.length : Int).toNat ≤ aO)) (gX D (qV c0 e0 (decide (0 ≤ (↑e0.length : Int)) && (↑e0.length : Int) == (↑e0.length : Int) && decide ((↑e0.length : Int).toNat * Tryz.prog.types[9].bytes ≤ aO) && decide ((↑e0.length : Int).toNat ≤ aO),(Tryz.prog.types[9].size,(↑e0.length : Int).toNat),List.map SV.leaf (List.replicate (↑e0.length : Int).toNat ((fun (x : List (aF true)) => .str (ByteArray.mk #[]) :: x) [])).flatten).snd.fst.snd 0 (decide (0 ≤ (↑e0.length : Int)) && (↑e0.length : Int) == (↑e0.length : Int) && decide ((↑e0.length : Int).toNat * Tryz.prog.types[9].bytes ≤ aO) && decide ((↑e0.length : Int).toNat ≤ aO),(Tryz.prog.types[9].size,(↑e0.length : Int).toNat),List.map SV.leaf (List.replicate (↑e0.length : Int).toNat ((fun (x : List (aF true)) => .str (ByteArray.mk #[]) :: x) [])).flatten).snd.snd)) := by refine (aI (J := gX D) (by kernel_rfl) (fun _ _ => rfl) [[1,1,0,1,0]]).trans ?_; generalize gX D = J; revert J; refine id ?_; intro J; kernel_rfl
end
section
variable (c0 : Fl true) (e0 : LT) (n3 : Nat) (i4 : Int) (vx7 : List (SV true))
def fJ := atA D F.aXS
def oN : PT := ([1,1,0,1,0],St.mk ([.leaf (.sl c0 e0),.any,.any,.bsl 7 6 0 n3,.leaf (.int .i64 i4)] ++ bB 18) (noB 7 ++ [some vx7] ++ noB 15))
theorem wN : fJ D (oN c0 e0 n3 i4 vx7) = aA (decide (i4 < (↑e0.length : Int))) (aB (decide (0 ≤ i4) && decide (i4 < (↑e0.length : Int)) && sized 6 e0) (jB (e0.getD i4.toNat []) fun e => atK e 0 fun l => cR l fun s => atK e 1 fun l => cR l fun s_1 => atK e 2 fun l => slK l fun c es => atK e 3 fun l => cR l fun s_2 => atK e 4 fun l => cR l fun s_3 => atK e 5 fun l => slK l fun c_1 es_1 => (D F.aX4 [.agg [.str s,.str s_1,.sl c es,.str s_2,.str s_3,.sl c_1 es_1]] []).bind fun r => gK r.fst fun cs => aB (cs.length == 6) (atK cs 0 fun l => cR l fun s => atK cs 1 fun l => cR l fun s_4 => atK cs 2 fun l => slK l fun c es => atK cs 3 fun l => cR l fun s_5 => atK cs 4 fun l => cR l fun s_6 => atK cs 5 fun l => slK l fun c_2 es_2 => aB (decide (0 ≤ i4) && decide (i4 < (↑n3 : Int))) (aB (decide ((0 + i4.toNat) * 6 + 6 ≤ vx7.length)) (fJ D (oN c0 e0 n3 (IntKind.i64.wrap (i4 + 1)) (mC vx7 ((0 + i4.toNat) * 6) [.leaf (.str s),.leaf (.str s_4),.leaf (.sl c es),.leaf (.str s_5),.leaf (.str s_6),.leaf (.sl c_2 es_2)]))))))) ((if n3 * 6 ≤ vx7.length ∧ 0 < 6 then match dV (List.take (n3 * 6) vx7) with | some x => some ((fun l => .leaf (.sl (Fl.new true) (qB 6 n3 l))) x) | none => none else none).bind fun v => aB v.flatT (some (v,[]))) := by refine (aL (J := fJ D) (fun _ _ => rfl) [[1,1,0,1,0]] _).trans ?_; generalize fJ D = J; revert J; refine id ?_; intro J; kernel_rfl
theorem aEm : aU Tryz.prog D Hs bN F.aXS [.leaf (.sl c0 e0)] [] = aB ((↑e0.length : Int) == (↑e0.length : Int) && decide ((↑e0.length : Int).toNat * 112 ≤ aO) && decide ((↑e0.length : Int).toNat ≤ aO)) (fJ D (oN c0 e0 (decide (0 ≤ (↑e0.length : Int)) && (↑e0.length : Int) == (↑e0.length : Int) && decide ((↑e0.length : Int).toNat * Tryz.prog.types[176].bytes ≤ aO) && decide ((↑e0.length : Int).toNat ≤ aO),(Tryz.prog.types[176].size,(↑e0.length : Int).toNat),List.map SV.leaf (List.replicate (↑e0.length : Int).toNat ((fun (x : List (aF true)) => .str (ByteArray.mk #[]) :: x) ((fun (x : List (aF true)) => .str (ByteArray.mk #[]) :: x) ((fun (x : List (aF true)) => .sl (Fl.new true) [] :: x) ((fun (x : List (aF true)) => .str (ByteArray.mk #[]) :: x) ((fun (x : List (aF true)) => .str (ByteArray.mk #[]) :: x) ((fun (x : List (aF true)) => .sl (Fl.new true) [] :: x) []))))))).flatten).snd.fst.snd 0 (decide (0 ≤ (↑e0.length : Int)) && (↑e0.length : Int) == (↑e0.length : Int) && decide ((↑e0.length : Int).toNat * Tryz.prog.types[176].bytes ≤ aO) && decide ((↑e0.length : Int).toNat ≤ aO),(Tryz.prog.types[176].size,(↑e0.length : Int).toNat),List.map SV.leaf (List.replicate (↑e0.length : Int).toNat ((fun (x : List (aF true)) => .str (ByteArray.mk #[]) :: x) ((fun (x : List (aF true)) => .str (ByteArray.mk #[]) :: x) ((fun (x : List (aF true)) => .sl (Fl.new true) [] :: x) ((fun (x : List (aF true)) => .str (ByteArray.mk #[]) :: x) ((fun (x : List (aF true)) => .str (ByteArray.mk #[]) :: x) ((fun (x : List (aF true)) => .sl (Fl.new true) [] :: x) []))))))).flatten).snd.snd)) := by refine (aI (J := fJ D) (by kernel_rfl) (fun _ _ => rfl) [[1,1,0,1,0]]).trans ?_; generalize fJ D = J; revert J; refine id ?_; intro J; kernel_rfl
end
section
variable (c0 : Fl true) (e0 : LT) (n3 : Nat) (i4 : Int) (vx7 : List (SV true))
def iL := atA D F.aYB
def rS : PT := ([1,1,0,1,0],St.mk ([.leaf (.sl c0 e0),.any,.any,.bsl 7 10 0 n3,.leaf (.int .i64 i4)] ++ bB 18) (noB 7 ++ [some vx7] ++ noB 15))
theorem aAC : iL D (rS c0 e0 n3 i4 vx7) = aA (decide (i4 < (↑e0.length : Int))) (aB (decide (0 ≤ i4) && decide (i4 < (↑e0.length : Int)) && sized 10 e0) (jB (e0.getD i4.toNat []) fun e => atK e 0 fun l => cR l fun s => atK e 1 fun l => cR l fun s_1 => atK e 2 fun l => cR l fun s_2 => atK e 3 fun l => cR l fun s_3 => atK e 4 fun l => eR l fun b => atK e 5 fun l => eF .i64 l fun n => atK e 6 fun l => cR l fun s_4 => atK e 7 fun l => slK l fun c es => atK e 8 fun l => slK l fun c_1 es_1 => atK e 9 fun l => slK l fun c_2 es_2 => (D F.aZa [.agg [.str s,.str s_1,.str s_2,.str s_3,.bool b,.int .i64 n,.str s_4,.sl c es,.sl c_1 es_1,.sl c_2 es_2]] []).bind fun r => gK r.fst fun cs => aB (cs.length == 10) (atK cs 0 fun l => cR l fun s => atK cs 1 fun l => cR l fun s_5 => atK cs 2 fun l => cR l fun s_6 => atK cs 3 fun l => cR l fun s_7 => atK cs 4 fun l => eR l fun b => atK cs 5 fun l => eF .i64 l fun n => atK cs 6 fun l => cR l fun s_8 => atK cs 7 fun l => slK l fun c es => atK cs 8 fun l => slK l fun c_3 es_3 => atK cs 9 fun l => slK l fun c_4 es_4 => aB (decide (0 ≤ i4) && decide (i4 < (↑n3 : Int))) (aB (decide ((0 + i4.toNat) * 10 + 10 ≤ vx7.length)) (iL D (rS c0 e0 n3 (IntKind.i64.wrap (i4 + 1)) (mC vx7 ((0 + i4.toNat) * 10) [.leaf (.str s),.leaf (.str s_5),.leaf (.str s_6),.leaf (.str s_7),.leaf (.bool b),.leaf (.int .i64 n),.leaf (.str s_8),.leaf (.sl c es),.leaf (.sl c_3 es_3),.leaf (.sl c_4 es_4)]))))))) ((if n3 * 10 ≤ vx7.length ∧ 0 < 10 then match dV (List.take (n3 * 10) vx7) with | some x => some ((fun l => .leaf (.sl (Fl.new true) (qB 10 n3 l))) x) | none => none else none).bind fun v => aB v.flatT (some (v,[]))) := by refine (aL (J := iL D) (fun _ _ => rfl) [[1,1,0,1,0]] _).trans ?_; generalize iL D = J; revert J; refine id ?_; intro J; kernel_rfl
theorem aHp : aU Tryz.prog D Hs bN F.aYB [.leaf (.sl c0 e0)] [] = aB ((↑e0.length : Int) == (↑e0.length : Int) && decide ((↑e0.length : Int).toNat * 168 ≤ aO) && decide ((↑e0.length : Int).toNat ≤ aO)) (iL D (rS c0 e0 (decide (0 ≤ (↑e0.length : Int)) && (↑e0.length : Int) == (↑e0.length : Int) && decide ((↑e0.length : Int).toNat * Tryz.prog.types[111].bytes ≤ aO) && decide ((↑e0.length : Int).toNat ≤ aO),(Tryz.prog.types[111].size,(↑e0.length : Int).toNat),List.map SV.leaf (List.replicate (↑e0.length : Int).toNat ((fun (x : List (aF true)) => .str (ByteArray.mk #[]) :: x) ((fun (x : List (aF true)) => .str (ByteArray.mk #[]) :: x) ((fun (x : List (aF true)) => .str (ByteArray.mk #[]) :: x) ((fun (x : List (aF true)) => .str (ByteArray.mk #[]) :: x) ((fun (x : List (aF true)) => .bool false :: x) ((fun (x : List (aF true)) => .int .i64 0 :: x) ((fun (x : List (aF true)) => .str (ByteArray.mk #[]) :: x) ((fun (x : List (aF true)) => .sl (Fl.new true) [] :: x) ((fun (x : List (aF true)) => .sl (Fl.new true) [] :: x) ((fun (x : List (aF true)) => .sl (Fl.new true) [] :: x) []))))))))))).flatten).snd.fst.snd 0 (decide (0 ≤ (↑e0.length : Int)) && (↑e0.length : Int) == (↑e0.length : Int) && decide ((↑e0.length : Int).toNat * Tryz.prog.types[111].bytes ≤ aO) && decide ((↑e0.length : Int).toNat ≤ aO),(Tryz.prog.types[111].size,(↑e0.length : Int).toNat),List.map SV.leaf (List.replicate (↑e0.length : Int).toNat ((fun (x : List (aF true)) => .str (ByteArray.mk #[]) :: x) ((fun (x : List (aF true)) => .str (ByteArray.mk #[]) :: x) ((fun (x : List (aF true)) => .str (ByteArray.mk #[]) :: x) ((fun (x : List (aF true)) => .str (ByteArray.mk #[]) :: x) ((fun (x : List (aF true)) => .bool false :: x) ((fun (x : List (aF true)) => .int .i64 0 :: x) ((fun (x : List (aF true)) => .str (ByteArray.mk #[]) :: x) ((fun (x : List (aF true)) => .sl (Fl.new true) [] :: x) ((fun (x : List (aF true)) => .sl (Fl.new true) [] :: x) ((fun (x : List (aF true)) => .sl (Fl.new true) [] :: x) []))))))))))).flatten).snd.snd)) := by refine (aI (J := iL D) (by kernel_rfl) (fun _ _ => rfl) [[1,1,0,1,0]]).trans ?_; generalize iL D = J; revert J; refine id ?_; intro J; kernel_rfl
end
section
variable (c0 : Fl true) (e0 : LT) (n3 : Nat) (i4 : Int) (vx7 : List (SV true))
def gA := atA D F.aXV
def pJ : PT := ([1,1,0,1,0],St.mk ([.leaf (.sl c0 e0),.any,.any,.bsl 7 3 0 n3,.leaf (.int .i64 i4)] ++ bB 18) (noB 7 ++ [some vx7] ++ noB 15))
theorem xD : gA D (pJ c0 e0 n3 i4 vx7) = aA (decide (i4 < (↑e0.length : Int))) (aB (decide (0 ≤ i4) && decide (i4 < (↑e0.length : Int)) && sized 3 e0) (jB (e0.getD i4.toNat []) fun e => atK e 0 fun l => cR l fun s => atK e 1 fun l => cR l fun s_1 => atK e 2 fun l => slK l fun c es => (D F.aYj [.agg [.str s,.str s_1,.sl c es]] []).bind fun r => gK r.fst fun cs => aB (cs.length == 3) (atK cs 0 fun l => cR l fun s => atK cs 1 fun l => cR l fun s_2 => atK cs 2 fun l => slK l fun c es => aB (decide (0 ≤ i4) && decide (i4 < (↑n3 : Int))) (aB (decide ((0 + i4.toNat) * 3 + 3 ≤ vx7.length)) (gA D (pJ c0 e0 n3 (IntKind.i64.wrap (i4 + 1)) (mC vx7 ((0 + i4.toNat) * 3) [.leaf (.str s),.leaf (.str s_2),.leaf (.sl c es)]))))))) ((if n3 * 3 ≤ vx7.length ∧ 0 < 3 then match dV (List.take (n3 * 3) vx7) with | some x => some ((fun l => .leaf (.sl (Fl.new true) (qB 3 n3 l))) x) | none => none else none).bind fun v => aB v.flatT (some (v,[]))) := by refine (aL (J := gA D) (fun _ _ => rfl) [[1,1,0,1,0]] _).trans ?_; generalize gA D = J; revert J; refine id ?_; intro J; kernel_rfl
theorem aFt : aU Tryz.prog D Hs bN F.aXV [.leaf (.sl c0 e0)] [] = aB ((↑e0.length : Int) == (↑e0.length : Int) && decide ((↑e0.length : Int).toNat * 56 ≤ aO) && decide ((↑e0.length : Int).toNat ≤ aO)) (gA D (pJ c0 e0 (decide (0 ≤ (↑e0.length : Int)) && (↑e0.length : Int) == (↑e0.length : Int) && decide ((↑e0.length : Int).toNat * Tryz.prog.types[157].bytes ≤ aO) && decide ((↑e0.length : Int).toNat ≤ aO),(Tryz.prog.types[157].size,(↑e0.length : Int).toNat),List.map SV.leaf (List.replicate (↑e0.length : Int).toNat ((fun (x : List (aF true)) => .str (ByteArray.mk #[]) :: x) ((fun (x : List (aF true)) => .str (ByteArray.mk #[]) :: x) ((fun (x : List (aF true)) => .sl (Fl.new true) [] :: x) [])))).flatten).snd.fst.snd 0 (decide (0 ≤ (↑e0.length : Int)) && (↑e0.length : Int) == (↑e0.length : Int) && decide ((↑e0.length : Int).toNat * Tryz.prog.types[157].bytes ≤ aO) && decide ((↑e0.length : Int).toNat ≤ aO),(Tryz.prog.types[157].size,(↑e0.length : Int).toNat),List.map SV.leaf (List.replicate (↑e0.length : Int).toNat ((fun (x : List (aF true)) => .str (ByteArray.mk #[]) :: x) ((fun (x : List (aF true)) => .str (ByteArray.mk #[]) :: x) ((fun (x : List (aF true)) => .sl (Fl.new true) [] :: x) [])))).flatten).snd.snd)) := by refine (aI (J := gA D) (by kernel_rfl) (fun _ _ => rfl) [[1,1,0,1,0]]).trans ?_; generalize gA D = J; revert J; refine id ?_; intro J; kernel_rfl
end
section
variable (c0 : Fl true) (e0 : LT) (n3 : Nat) (i4 : Int) (vx7 : List (SV true))
def kB := atA D F.aZv
def vQ : PT := ([1,1,0,1,0],St.mk ([.leaf (.sl c0 e0),.any,.any,.bsl 7 2 0 n3,.leaf (.int .i64 i4)] ++ bB 18) (noB 7 ++ [some vx7] ++ noB 15))
theorem aB8 : kB D (vQ c0 e0 n3 i4 vx7) = aA (decide (i4 < (↑e0.length : Int))) (aB (decide (0 ≤ i4) && decide (i4 < (↑e0.length : Int)) && sized 2 e0) (jB (e0.getD i4.toNat []) fun e => atK e 0 fun l => cR l fun s => atK e 1 fun l => slK l fun c es => (D F.aZP [.agg [.str s,.sl c es]] []).bind fun r => gK r.fst fun cs => aB (cs.length == 2) (atK cs 0 fun l => cR l fun s => atK cs 1 fun l => slK l fun c es => aB (decide (0 ≤ i4) && decide (i4 < (↑n3 : Int))) (aB (decide ((0 + i4.toNat) * 2 + 2 ≤ vx7.length)) (kB D (vQ c0 e0 n3 (IntKind.i64.wrap (i4 + 1)) (mC vx7 ((0 + i4.toNat) * 2) [.leaf (.str s),.leaf (.sl c es)]))))))) ((if n3 * 2 ≤ vx7.length ∧ 0 < 2 then match dV (List.take (n3 * 2) vx7) with | some x => some ((fun l => .leaf (.sl (Fl.new true) (qB 2 n3 l))) x) | none => none else none).bind fun v => aB v.flatT (some (v,[]))) := by refine (aL (J := kB D) (fun _ _ => rfl) [[1,1,0,1,0]] _).trans ?_; generalize kB D = J; revert J; refine id ?_; intro J; kernel_rfl
theorem aKb : aU Tryz.prog D Hs bN F.aZv [.leaf (.sl c0 e0)] [] = aB ((↑e0.length : Int) == (↑e0.length : Int) && decide ((↑e0.length : Int).toNat * 40 ≤ aO) && decide ((↑e0.length : Int).toNat ≤ aO)) (kB D (vQ c0 e0 (decide (0 ≤ (↑e0.length : Int)) && (↑e0.length : Int) == (↑e0.length : Int) && decide ((↑e0.length : Int).toNat * Tryz.prog.types[139].bytes ≤ aO) && decide ((↑e0.length : Int).toNat ≤ aO),(Tryz.prog.types[139].size,(↑e0.length : Int).toNat),List.map SV.leaf (List.replicate (↑e0.length : Int).toNat ((fun (x : List (aF true)) => .str (ByteArray.mk #[]) :: x) ((fun (x : List (aF true)) => .sl (Fl.new true) [] :: x) []))).flatten).snd.fst.snd 0 (decide (0 ≤ (↑e0.length : Int)) && (↑e0.length : Int) == (↑e0.length : Int) && decide ((↑e0.length : Int).toNat * Tryz.prog.types[139].bytes ≤ aO) && decide ((↑e0.length : Int).toNat ≤ aO),(Tryz.prog.types[139].size,(↑e0.length : Int).toNat),List.map SV.leaf (List.replicate (↑e0.length : Int).toNat ((fun (x : List (aF true)) => .str (ByteArray.mk #[]) :: x) ((fun (x : List (aF true)) => .sl (Fl.new true) [] :: x) []))).flatten).snd.snd)) := by refine (aI (J := kB D) (by kernel_rfl) (fun _ _ => rfl) [[1,1,0,1,0]]).trans ?_; generalize kB D = J; revert J; refine id ?_; intro J; kernel_rfl
end
section
variable (c0 : Fl true) (e0 : LT) (i1 i5 : Int)
def gB := atA D F.aX1
def pK : PT := ([1,0,1,0],St.mk ([.leaf (.sl c0 e0),.leaf (.int .i64 i1),.any,.any,.any,.leaf (.int .i64 i5)] ++ bB 36) (noB 42))
theorem yL : gB D (pK c0 e0 i1 i5) = aA (decide (i5 < (↑e0.length : Int))) (aB (decide (0 ≤ i5) && decide (i5 < (↑e0.length : Int)) && sized 4 e0) (if (c0.isSoft = true ∧ fL (e0.getD i5.toNat []) 0 = true) ∧ ((.leaf (.int .i64 i1) : SV true)).plain = true ∧ eX Tryz.prog 3 = some 1 then (D F.aYs [.leaf (.int .i64 (IntKind.i64.wrap (i1 + 1)))] []).bind fun r => aS r.fst fun l => cR l fun s => aB (decide (0 ≤ i5) && decide (i5 < (↑e0.length : Int)) && sized 4 e0) (if (c0.isSoft = true ∧ fL (e0.getD i5.toNat []) 1 = true) ∧ ((.leaf (.str s) : SV true)).plain = true ∧ eX Tryz.prog 9 = some 1 then aB (decide (0 ≤ i5) && decide (i5 < (↑e0.length : Int)) && sized 4 e0) (atK (e0.getD i5.toNat []) 2 fun l => slK l fun c es => (D F.aX1 [.leaf (.sl c es),.leaf (.int .i64 (IntKind.i64.wrap (IntKind.i64.wrap (i1 + 1) + 1)))] []).bind fun r => aS r.fst fun l => eF .i64 l fun n => aB (decide (0 ≤ i5) && decide (i5 < (↑e0.length : Int)) && sized 4 e0) (atK (e0.getD i5.toNat []) 3 fun l => slK l fun c es => (D F.aXQ [.leaf (.sl c es),.leaf (.int .i64 n)] []).bind fun r => aS r.fst fun l => eF .i64 l fun n => gB D (pK c0 e0 n (IntKind.i64.wrap (i5 + 1))))) else none) else none)) (some (.leaf (.int .i64 i1),[])) := by refine (aL (J := gB D) (fun _ _ => rfl) [[1,0,1,0]] _).trans ?_; generalize gB D = J; revert J; refine id ?_; intro J; kernel_rfl
theorem aFA : aU Tryz.prog D Hs bN F.aX1 [.leaf (.sl c0 e0),.leaf (.int .i64 i1)] [] = gB D (pK c0 e0 i1 0) := by refine (aI (J := gB D) (by kernel_rfl) (fun _ _ => rfl) [[1,0,1,0]]).trans ?_; generalize gB D = J; revert J; refine id ?_; intro J; kernel_rfl
end
section
variable (c0 : Fl true) (e0 : LT) (i1 i5 : Int)
def iU := atA D F.aYu
def rW : PT := ([1,0,1,0],St.mk ([.leaf (.sl c0 e0),.leaf (.int .i64 i1),.any,.any,.any,.leaf (.int .i64 i5)] ++ bB 48) (noB 54))
theorem aAS : iU D (rW c0 e0 i1 i5) = aA (decide (i5 < (↑e0.length : Int))) ((D F.aYs [.leaf (.int .i64 i1)] []).bind fun r => aS r.fst fun l => cR l fun s => aB (decide (0 ≤ i5) && decide (i5 < (↑e0.length : Int)) && sized 5 e0) (if (c0.isSoft = true ∧ fL (e0.getD i5.toNat []) 0 = true) ∧ ((.leaf (.str s) : SV true)).plain = true ∧ eX Tryz.prog 9 = some 1 then aB (decide (0 ≤ i5) && decide (i5 < (↑e0.length : Int)) && sized 5 e0) (if (c0.isSoft = true ∧ fL (e0.getD i5.toNat []) 1 = true) ∧ ((.leaf (.int .i64 (IntKind.i64.wrap (i1 + 1))) : SV true)).plain = true ∧ eX Tryz.prog 3 = some 1 then (D F.aYs [.leaf (.int .i64 (IntKind.i64.wrap (IntKind.i64.wrap (i1 + 1) + 1)))] []).bind fun r => aS r.fst fun l => cR l fun s => aB (decide (0 ≤ i5) && decide (i5 < (↑e0.length : Int)) && sized 5 e0) (if (c0.isSoft = true ∧ fL (e0.getD i5.toNat []) 2 = true) ∧ ((.leaf (.str s) : SV true)).plain = true ∧ eX Tryz.prog 9 = some 1 then aB (decide (0 ≤ i5) && decide (i5 < (↑e0.length : Int)) && sized 5 e0) (atK (e0.getD i5.toNat []) 3 fun l => slK l fun c es => (D F.aX1 [.leaf (.sl c es),.leaf (.int .i64 (IntKind.i64.wrap (IntKind.i64.wrap (IntKind.i64.wrap (i1 + 1) + 1) + 1)))] []).bind fun r => aS r.fst fun l => eF .i64 l fun n => aB (decide (0 ≤ i5) && decide (i5 < (↑e0.length : Int)) && sized 5 e0) (atK (e0.getD i5.toNat []) 4 fun l => slK l fun c es => (D F.aXQ [.leaf (.sl c es),.leaf (.int .i64 n)] []).bind fun r => aS r.fst fun l => eF .i64 l fun n => iU D (rW c0 e0 n (IntKind.i64.wrap (i5 + 1))))) else none) else none) else none)) (some (.leaf (.int .i64 i1),[])) := by refine (aL (J := iU D) (fun _ _ => rfl) [[1,0,1,0]] _).trans ?_; generalize iU D = J; revert J; refine id ?_; intro J; kernel_rfl
theorem aHC : aU Tryz.prog D Hs bN F.aYu [.leaf (.sl c0 e0),.leaf (.int .i64 i1)] [] = iU D (rW c0 e0 i1 0) := by refine (aI (J := iU D) (by kernel_rfl) (fun _ _ => rfl) [[1,0,1,0]]).trans ?_; generalize iU D = J; revert J; refine id ?_; intro J; kernel_rfl
end
def aBg := atA D F.aX4
theorem aFj (s0_0 s0_1 : ByteArray) (c0_2 : Fl true) (e0_2 : LT) (s0_3 s0_4 : ByteArray) (c0_5 : Fl true) (e0_5 : LT) : aU Tryz.prog D Hs bN F.aX4 [.agg [.str s0_0,.str s0_1,.sl c0_2 e0_2,.str s0_3,.str s0_4,.sl c0_5 e0_5]] [] = (D F.aYB [.leaf (.sl c0_2 e0_2)] []).bind fun r => rD r.fst fun c es => (D F.aZw [.agg [.str s0_3,.str s0_4]] []).bind fun r => gK r.fst fun cs => aB (cs.length == 2) (atK cs 0 fun l => cR l fun s => atK cs 1 fun l => cR l fun s_1 => (D F.aZv [.leaf (.sl c0_5 e0_5)] []).bind fun r => rD r.fst fun c_1 es_1 => some (.agg [.str s0_0,.str s0_1,.sl c es,.str s,.str s_1,.sl c_1 es_1],[])) := by refine (aI (J := aBg D) (by kernel_rfl) (fun _ _ => rfl) []).trans ?_; generalize aBg D = J; revert J; refine id ?_; intro J; kernel_rfl
def aDt := atA D F.aZa
theorem aJd (s0_0 s0_1 s0_2 s0_3 : ByteArray) (b0_4 : Bool) (i0_5 : Int) (s0_6 : ByteArray) (c0_7 : Fl true) (e0_7 : LT) (c0_8 : Fl true) (e0_8 : LT) (c0_9 : Fl true) (e0_9 : LT) : aU Tryz.prog D Hs bN F.aZa [.agg [.str s0_0,.str s0_1,.str s0_2,.str s0_3,.bool b0_4,.int .i64 i0_5,.str s0_6,.sl c0_7 e0_7,.sl c0_8 e0_8,.sl c0_9 e0_9]] [] = (D F.aZw [.agg [.str s0_2,.str s0_3]] []).bind fun r => gK r.fst fun cs => aB (cs.length == 2) (atK cs 0 fun l => cR l fun s => atK cs 1 fun l => cR l fun s_1 => (D F.aYZ [.agg [.int .i64 i0_5,.str s0_6,.sl c0_7 e0_7,.sl c0_8 e0_8]] []).bind fun r => gK r.fst fun cs => aB (cs.length == 4) (atK cs 0 fun l => eF .i64 l fun n => atK cs 1 fun l => cR l fun s_2 => atK cs 2 fun l => slK l fun c es => atK cs 3 fun l => slK l fun c_1 es_1 => (D F.aZv [.leaf (.sl c0_9 e0_9)] []).bind fun r => rD r.fst fun c_2 es_2 => some (.agg [.str s0_0,.str s0_1,.str s,.str s_1,.bool b0_4,.int .i64 n,.str s_2,.sl c es,.sl c_1 es_1,.sl c_2 es_2],[]))) := by refine (aI (J := aDt D) (by kernel_rfl) (fun _ _ => rfl) []).trans ?_; generalize aDt D = J; revert J; refine id ?_; intro J; kernel_rfl
def aBH := atA D F.aYj
theorem aGh (s0_0 s0_1 : ByteArray) (c0_2 : Fl true) (e0_2 : LT) : aU Tryz.prog D Hs bN F.aYj [.agg [.str s0_0,.str s0_1,.sl c0_2 e0_2]] [] = (D F.aZv [.leaf (.sl c0_2 e0_2)] []).bind fun r => rD r.fst fun c es => some (.agg [.str s0_0,.str s0_1,.sl c es],[]) := by refine (aI (J := aBH D) (by kernel_rfl) (fun _ _ => rfl) []).trans ?_; generalize aBH D = J; revert J; refine id ?_; intro J; kernel_rfl
def aG1 := atA D F.aZP
theorem aLE (s0_0 : ByteArray) (c0_1 : Fl true) (e0_1 : LT) : aU Tryz.prog D Hs bN F.aZP [.agg [.str s0_0,.sl c0_1 e0_1]] [] = (D F.aZr [.leaf (.sl c0_1 e0_1)] []).bind fun r => rD r.fst fun c es => some (.agg [.str s0_0,.sl c es],[]) := by refine (aI (J := aG1 D) (by kernel_rfl) (fun _ _ => rfl) []).trans ?_; generalize aG1 D = J; revert J; refine id ?_; intro J; kernel_rfl
def aFc := atA D F.aZw
theorem aJP (s0_0 s0_1 : ByteArray) : aU Tryz.prog D Hs bN F.aZw [.agg [.str s0_0,.str s0_1]] [] = some (.agg [.str s0_0,.str s0_1],[]) := by refine (aI (J := aFc D) (by kernel_rfl) (fun _ _ => rfl) []).trans ?_; generalize aFc D = J; revert J; refine id ?_; intro J; kernel_rfl
def aDP := atA D F.aYZ
theorem aJe (i0_0 : Int) (s0_1 : ByteArray) (c0_2 : Fl true) (e0_2 : LT) (c0_3 : Fl true) (e0_3 : LT) : aU Tryz.prog D Hs bN F.aYZ [.agg [.int .i64 i0_0,.str s0_1,.sl c0_2 e0_2,.sl c0_3 e0_3]] [] = (D F.aYF [.leaf (.sl c0_2 e0_2)] []).bind fun r => rD r.fst fun c es => (D F.aYl [.leaf (.sl c0_3 e0_3)] []).bind fun r => rD r.fst fun c_1 es_1 => some (.agg [.int .i64 i0_0,.str s0_1,.sl c es,.sl c_1 es_1],[]) := by refine (aI (J := aDP D) (by kernel_rfl) (fun _ _ => rfl) []).trans ?_; generalize aDP D = J; revert J; refine id ?_; intro J; kernel_rfl
section
variable (c0 : Fl true) (e0 : LT) (n3 : Nat) (i4 : Int) (vx7 : List (SV true))
def kC := atA D F.aZr
def vD : PT := ([1,1,0,1,0],St.mk ([.leaf (.sl c0 e0),.any,.any,.bsl 7 5 0 n3,.leaf (.int .i64 i4)] ++ bB 18) (noB 7 ++ [some vx7] ++ noB 15))
theorem aBI : kC D (vD c0 e0 n3 i4 vx7) = aA (decide (i4 < (↑e0.length : Int))) (aB (decide (0 ≤ i4) && decide (i4 < (↑e0.length : Int)) && sized 5 e0) (jB (e0.getD i4.toNat []) fun e => atK e 0 fun l => cR l fun s => atK e 1 fun l => eF .i64 l fun n => atK e 2 fun l => cR l fun s_1 => atK e 3 fun l => slK l fun c es => atK e 4 fun l => slK l fun c_1 es_1 => (D F.aZX [.agg [.str s,.int .i64 n,.str s_1,.sl c es,.sl c_1 es_1]] []).bind fun r => gK r.fst fun cs => aB (cs.length == 5) (atK cs 0 fun l => cR l fun s => atK cs 1 fun l => eF .i64 l fun n => atK cs 2 fun l => cR l fun s_2 => atK cs 3 fun l => slK l fun c es => atK cs 4 fun l => slK l fun c_2 es_2 => aB (decide (0 ≤ i4) && decide (i4 < (↑n3 : Int))) (aB (decide ((0 + i4.toNat) * 5 + 5 ≤ vx7.length)) (kC D (vD c0 e0 n3 (IntKind.i64.wrap (i4 + 1)) (mC vx7 ((0 + i4.toNat) * 5) [.leaf (.str s),.leaf (.int .i64 n),.leaf (.str s_2),.leaf (.sl c es),.leaf (.sl c_2 es_2)]))))))) ((if n3 * 5 ≤ vx7.length ∧ 0 < 5 then match dV (List.take (n3 * 5) vx7) with | some x => some ((fun l => .leaf (.sl (Fl.new true) (qB 5 n3 l))) x) | none => none else none).bind fun v => aB v.flatT (some (v,[]))) := by refine (aL (J := kC D) (fun _ _ => rfl) [[1,1,0,1,0]] _).trans ?_; generalize kC D = J; revert J; refine id ?_; intro J; kernel_rfl
theorem aKh : aU Tryz.prog D Hs bN F.aZr [.leaf (.sl c0 e0)] [] = aB ((↑e0.length : Int) == (↑e0.length : Int) && decide ((↑e0.length : Int).toNat * 88 ≤ aO) && decide ((↑e0.length : Int).toNat ≤ aO)) (kC D (vD c0 e0 (decide (0 ≤ (↑e0.length : Int)) && (↑e0.length : Int) == (↑e0.length : Int) && decide ((↑e0.length : Int).toNat * Tryz.prog.types[105].bytes ≤ aO) && decide ((↑e0.length : Int).toNat ≤ aO),(Tryz.prog.types[105].size,(↑e0.length : Int).toNat),List.map SV.leaf (List.replicate (↑e0.length : Int).toNat ((fun (x : List (aF true)) => .str (ByteArray.mk #[]) :: x) ((fun (x : List (aF true)) => .int .i64 0 :: x) ((fun (x : List (aF true)) => .str (ByteArray.mk #[]) :: x) ((fun (x : List (aF true)) => .sl (Fl.new true) [] :: x) ((fun (x : List (aF true)) => .sl (Fl.new true) [] :: x) [])))))).flatten).snd.fst.snd 0 (decide (0 ≤ (↑e0.length : Int)) && (↑e0.length : Int) == (↑e0.length : Int) && decide ((↑e0.length : Int).toNat * Tryz.prog.types[105].bytes ≤ aO) && decide ((↑e0.length : Int).toNat ≤ aO),(Tryz.prog.types[105].size,(↑e0.length : Int).toNat),List.map SV.leaf (List.replicate (↑e0.length : Int).toNat ((fun (x : List (aF true)) => .str (ByteArray.mk #[]) :: x) ((fun (x : List (aF true)) => .int .i64 0 :: x) ((fun (x : List (aF true)) => .str (ByteArray.mk #[]) :: x) ((fun (x : List (aF true)) => .sl (Fl.new true) [] :: x) ((fun (x : List (aF true)) => .sl (Fl.new true) [] :: x) [])))))).flatten).snd.snd)) := by refine (aI (J := kC D) (by kernel_rfl) (fun _ _ => rfl) [[1,1,0,1,0]]).trans ?_; generalize kC D = J; revert J; refine id ?_; intro J; kernel_rfl
end
section
variable (c0 : Fl true) (e0 : LT) (n3 : Nat) (i4 : Int) (vx7 : List (SV true))
def iN := atA D F.aYF
def rX : PT := ([1,1,0,1,0],St.mk ([.leaf (.sl c0 e0),.any,.any,.bsl 7 4 0 n3,.leaf (.int .i64 i4)] ++ bB 18) (noB 7 ++ [some vx7] ++ noB 15))
theorem aAt : iN D (rX c0 e0 n3 i4 vx7) = aA (decide (i4 < (↑e0.length : Int))) (aB (decide (0 ≤ i4) && decide (i4 < (↑e0.length : Int)) && sized 4 e0) (jB (e0.getD i4.toNat []) fun e => atK e 0 fun l => eF .i64 l fun n => atK e 1 fun l => cR l fun s => atK e 2 fun l => slK l fun c es => atK e 3 fun l => slK l fun c_1 es_1 => (D F.aYZ [.agg [.int .i64 n,.str s,.sl c es,.sl c_1 es_1]] []).bind fun r => gK r.fst fun cs => aB (cs.length == 4) (atK cs 0 fun l => eF .i64 l fun n => atK cs 1 fun l => cR l fun s => atK cs 2 fun l => slK l fun c es => atK cs 3 fun l => slK l fun c_2 es_2 => aB (decide (0 ≤ i4) && decide (i4 < (↑n3 : Int))) (aB (decide ((0 + i4.toNat) * 4 + 4 ≤ vx7.length)) (iN D (rX c0 e0 n3 (IntKind.i64.wrap (i4 + 1)) (mC vx7 ((0 + i4.toNat) * 4) [.leaf (.int .i64 n),.leaf (.str s),.leaf (.sl c es),.leaf (.sl c_2 es_2)]))))))) ((if n3 * 4 ≤ vx7.length ∧ 0 < 4 then match dV (List.take (n3 * 4) vx7) with | some x => some ((fun l => .leaf (.sl (Fl.new true) (qB 4 n3 l))) x) | none => none else none).bind fun v => aB v.flatT (some (v,[]))) := by refine (aL (J := iN D) (fun _ _ => rfl) [[1,1,0,1,0]] _).trans ?_; generalize iN D = J; revert J; refine id ?_; intro J; kernel_rfl
theorem aHy : aU Tryz.prog D Hs bN F.aYF [.leaf (.sl c0 e0)] [] = aB ((↑e0.length : Int) == (↑e0.length : Int) && decide ((↑e0.length : Int).toNat * 72 ≤ aO) && decide ((↑e0.length : Int).toNat ≤ aO)) (iN D (rX c0 e0 (decide (0 ≤ (↑e0.length : Int)) && (↑e0.length : Int) == (↑e0.length : Int) && decide ((↑e0.length : Int).toNat * Tryz.prog.types[103].bytes ≤ aO) && decide ((↑e0.length : Int).toNat ≤ aO),(Tryz.prog.types[103].size,(↑e0.length : Int).toNat),List.map SV.leaf (List.replicate (↑e0.length : Int).toNat ((fun (x : List (aF true)) => .int .i64 0 :: x) ((fun (x : List (aF true)) => .str (ByteArray.mk #[]) :: x) ((fun (x : List (aF true)) => .sl (Fl.new true) [] :: x) ((fun (x : List (aF true)) => .sl (Fl.new true) [] :: x) []))))).flatten).snd.fst.snd 0 (decide (0 ≤ (↑e0.length : Int)) && (↑e0.length : Int) == (↑e0.length : Int) && decide ((↑e0.length : Int).toNat * Tryz.prog.types[103].bytes ≤ aO) && decide ((↑e0.length : Int).toNat ≤ aO),(Tryz.prog.types[103].size,(↑e0.length : Int).toNat),List.map SV.leaf (List.replicate (↑e0.length : Int).toNat ((fun (x : List (aF true)) => .int .i64 0 :: x) ((fun (x : List (aF true)) => .str (ByteArray.mk #[]) :: x) ((fun (x : List (aF true)) => .sl (Fl.new true) [] :: x) ((fun (x : List (aF true)) => .sl (Fl.new true) [] :: x) []))))).flatten).snd.snd)) := by refine (aI (J := iN D) (by kernel_rfl) (fun _ _ => rfl) [[1,1,0,1,0]]).trans ?_; generalize iN D = J; revert J; refine id ?_; intro J; kernel_rfl
end
def aGB := atA D F.aZX
theorem aLf (s0_0 : ByteArray) (i0_1 : Int) (s0_2 : ByteArray) (c0_3 : Fl true) (e0_3 : LT) (c0_4 : Fl true) (e0_4 : LT) : aU Tryz.prog D Hs bN F.aZX [.agg [.str s0_0,.int .i64 i0_1,.str s0_2,.sl c0_3 e0_3,.sl c0_4 e0_4]] [] = (D F.aYZ [.agg [.int .i64 i0_1,.str s0_2,.sl c0_3 e0_3,.sl c0_4 e0_4]] []).bind fun r => gK r.fst fun cs => aB (cs.length == 4) (atK cs 0 fun l => eF .i64 l fun n => atK cs 1 fun l => cR l fun s => atK cs 2 fun l => slK l fun c es => atK cs 3 fun l => slK l fun c_1 es_1 => some (.agg [.str s0_0,.int .i64 n,.str s,.sl c es,.sl c_1 es_1],[])) := by refine (aI (J := aGB D) (by kernel_rfl) (fun _ _ => rfl) []).trans ?_; generalize aGB D = J; revert J; refine id ?_; intro J; kernel_rfl
end
end Go.Vs
end
