/- What the program's functions compute, read off their text by the shadow runner (NLw0, NPI, NF32, NToldG, VsBound, NTa, NTs, NTe, ND); no condition. -/
import Derived.Shelf.Strconv.ParseIntPublic10
import Derived.Test.YtphfegkplihmhaaGreatDoorChecked
import Derived.WalkKit
import Derived.Lib.Walk
import Derived.BigCall
import Derived.BigGuard
import Derived.Below
import Derived.Lib.AtoiErrMem
import Derived.Test.YtphfegkplihmhaaGreatDoorVB6
section
open Go Go.Vs Go.Proofs
set_option linter.unusedVariables false
set_option linter.unusedSimpArgs false
namespace Go.Vs
section
variable {D : bK false}
def aLY (D : bK false) (l : List FuncId) : Prop := ∀ f ∈ l, ∀ (a : List (SV false)) (b : List (List (SV false))) (r : SV false × List (List (SV false))), aT Tryz.prog D Hs bA f a b = some r → D f a b = some r
theorem aQd (hD : aLY D [F.aWK]) {s : ByteArray} {c : UInt8} : D F.aWK [.leaf (.str s), .leaf (.str ⟨#[c]⟩)] [] = some (aH (decide (s.data.toList.head? = some c)), []) := by
  refine hD _ (by simp) _ _ _ ?_
  have hn := aGS s
  have h1 : (ByteArray.mk #[c]).size = 1 := rfl
  rw [tB, h1]
  cases hl : s.data.toList with
  | nil =>
    rw [hl] at hn
    have h0 : ¬ ((s.size : Nat) : Int) ≥ ((1 : Nat) : Int) := by simp at hn; omega
    simp -implicitDefEqProofs only [h0, decide_false, bT, aD]
    rfl
  | cons x r =>
    rw [hl] at hn
    have h0 : ((s.size : Nat) : Int) ≥ ((1 : Nat) : Int) := by simp at hn; omega
    have h2 : 1 ≤ s.size := by omega
    have he : (s.extract 0 1).toList = [x] := by rw [aRM, aI5, hl]; simp
    have h3 : (ByteArray.mk #[c]).toList = [c] := by rw [aRM]
    simp -implicitDefEqProofs only [h0, decide_true, bT, aE, Int.toNat_natCast, h2, aG, he, h3]
    have : (([x] : List UInt8) == [c]) = decide ((x :: r).head? = some c) := by
      by_cases hx : x = c <;> simp [hx]
    rw [this]
theorem aOr (hD : aLY D [F.aWK, F.aWF, F.aWS]) {s : ByteArray} {c : UInt8} : D F.aWS [.leaf (.str s), .leaf (.str ⟨#[c]⟩)] [] = some (.leaf (.str (aEu s c)), []) := by
  have key : D F.aWF [.leaf (.str s), .leaf (.str ⟨#[c]⟩)] [] = some (.leaf (.str (aEu s c)), []) := by
    refine hD _ (by simp) _ _ _ ?_
    have hn := aGS s
    rw [rS, aQd (fun f hf => hD f (by simp at hf; simp [hf])), dO]
    unfold aEu
    by_cases h : s.data.toList.head? = some c
    · have h2 : 1 ≤ s.size := by
        cases hl : s.data.toList with
        | nil => simp [hl] at h
        | cons x r => rw [hl] at hn; simp at hn; omega
      have h1 : (ByteArray.mk #[c]).size = 1 := rfl
      simp -implicitDefEqProofs only [h, decide_true, aE, if_true, h1, Int.toNat_natCast, h2, Nat.le_refl, Bool.and_self, aG]
    · simp -implicitDefEqProofs only [h, decide_false, aD, if_false]
  refine hD _ (by simp) _ _ _ ?_
  rw [aCx, key, aCz]
theorem aSP (hD : aLY D [F.aXK, F.aYc]) {s : ByteArray} (hs : s.size ≤ maxLen) : D F.aYc [.leaf (.str s)] [] = some (aH (s.data.toList.all tW && decide (s.data.toList ≠ [])), []) := by
  have fig : ∀ b : UInt8, D F.aXK [.leaf (.int .u8 (b.toNat : Int))] [] = some (aH (tW b), []) := fun b => by
    refine hD _ (by simp) _ _ _ ?_
    rw [aIT]
    unfold tW
    by_cases h : 48 ≤ b.toNat
    · have h1 : ((b.toNat : Nat) : Int) ≥ 48 := by omega
      have h2 : (((b.toNat : Nat) : Int) ≤ 57) = (b.toNat ≤ 57) := by simp; omega
      simp -implicitDefEqProofs only [h, h1, h2, decide_true, bT, aE, Bool.true_and]
    · have h1 : ¬ ((b.toNat : Nat) : Int) ≥ 48 := by omega
      simp -implicitDefEqProofs only [h, h1, decide_false, bT, aD, Bool.false_and]
  refine hD _ (by simp) _ _ _ ?_
  have hn := aGS s
  rw [aKC]
  have := aTE (l := s.data.toList) (p := tW) (A := fun i => jX D (vG s s.size i)) (yes := some (aH (decide (s.data.toList ≠ [])), [])) (no := some (aH false, [])) (by
    rw [aA6, hn]
    simp -implicitDefEqProofs only [Int.lt_irrefl, decide_false, aD, aRM]
    have : (!s.data.toList == (ByteArray.mk #[]).data.toList) = decide (s.data.toList ≠ []) := by
      cases s.data.toList <;> simp
    rw [this]) (fun i hi => by
    rw [aA6]
    have hi' : i < s.size := by omega
    have hg : s.data.toList.getD i 0 = s.data.toList[i] := by rw [List.getD_eq_getElem?_getD, List.getElem?_eq_getElem hi]; rfl
    have hw := aV (Nat.lt_of_lt_of_le hi' hs)
    simp -implicitDefEqProofs only [inI, hi', hg, fig, dO, hw])
  rw [this]
  cases s.data.toList.all tW <;> simp
theorem aUT (hD : aLY D [F.aWK, F.aWF, F.aWS, F.aXK, F.aYc, F.aZj]) {s : ByteArray} (hs : s.size ≤ maxLen) : D F.aZj [.leaf (.str s)] [] = some (aH (aDX s.data.toList), []) := by
  refine hD _ (by simp) _ _ _ ?_
  have hn := aGS s
  have ht := aSa s
  have htn := aGS (aEu s 45)
  have hle : (aEu s 45).size ≤ maxLen := by
    have : (aEu s 45).size ≤ s.size := by
      unfold aEu
      split
      · rw [ByteArray.size_extract]; omega
      · exact Nat.le_refl _
    omega
  rw [aMK, aOr (fun f hf => hD f (by simp at hf; rcases hf with h | h | h <;> simp [h])), aCz, aSP (fun f hf => hD f (by simp at hf; rcases hf with h | h <;> simp [h])) hle, dO]
  unfold aDX
  rw [hn, ← ht]
  by_cases h40 : s.size ≤ 40
  · have h40' : ((s.size : Nat) : Int) ≤ 40 := by omega
    simp -implicitDefEqProofs only [h40, h40', decide_true, bT, aE, Bool.true_and]
    cases hd : (aEu s 45).data.toList with
    | nil => simp
    | cons x r =>
      rw [hd] at htn
      have hpos : (0 : Int) < ((aEu s 45).size : Int) := by simp at htn; omega
      simp -implicitDefEqProofs only [ne_eq, List.cons_ne_nil, not_false_eq_true, decide_true, Bool.and_true, Bool.true_and]
      cases (x :: r).all tW with
      | false => simp -implicitDefEqProofs only [aD, Bool.false_and]
      | true =>
        simp -implicitDefEqProofs only [aE, Bool.true_and, aRM, hd, hpos, decide_true, aG, bF, aAn]
        cases r with
        | nil =>
          by_cases hx : x = 48
          · subst hx; simp
          · have h1 : (([x] : List UInt8) == (ByteArray.mk #[48]).data.toList) = false := by simp [hx]
            have h2 : ¬ x.toNat = 48 := fun h => hx (by rw [← UInt8.toNat_inj]; simpa using h)
            simp [h1]
            omega
        | cons y r =>
          have h1 : ((x :: y :: r : List UInt8) == (ByteArray.mk #[48]).data.toList) = false := by simp
          simp -implicitDefEqProofs only [h1, aD]
          simp
          congr 1
          rw [Bool.eq_iff_iff]
          simp
          omega
  · have h40' : ¬ ((s.size : Nat) : Int) ≤ 40 := by omega
    simp -implicitDefEqProofs only [h40, h40', decide_false, bT, aD, Bool.false_and]
end
end Go.Vs
end
section
namespace Go.Proofs
open Go.Shelf
def Tryz.laysC174_ren : Go.Shelf.Ren := ⟨fun | 174 => 177 | 247 => 181 | 245 => 182 | 287 => 186 | 279 => 187 | 280 => 188 | 281 => 189 | 282 => 190 | 321 => 193 | 322 => 194 | 316 => 195 | 171 => 197 | 205 => 196 | 243 => 199 | 246 => 200 | 283 => 201 | 284 => 202 | 285 => 203 | 286 => 204 | 129 => 206 | 317 => 205 | 318 => 207 | 319 => 208 | 320 => 209 | 337 => 210 | 338 => 211 | n => n, fun | 9 => 9 | 3 => 3 | 2 => 2 | 75 => 237 | 85 => 238 | 4 => 4 | 167 => 244 | 5 => 5 | 53 => 245 | 175 => 246 | 46 => 248 | 168 => 249 | 37 => 144 | 0 => 0 | 210 => 255 | 21 => 21 | 127 => 257 | 145 => 260 | 143 => 258 | 171 => 262 | 173 => 265 | 212 => 269 | 51 => 270 | 20 => 20 | 213 => 271 | 232 => 275 | 233 => 276 | 80 => 277 | n => n, fun | 15 => 0 | 16 => 1 | 17 => 2 | 18 => 3 | 19 => 4 | n => n⟩
theorem Tryz.laysC174 : Go.Proofs.LaysC.n174 Tryz.prog Tryz.laysC174_ren := {
  mixed := by kernel_rfl
  f129 := Tryz.func206.trans (congrArg some (by kernel_rfl))
  f171 := Tryz.func197.trans (congrArg some (by kernel_rfl))
  f174 := Tryz.func177.trans (congrArg some (by kernel_rfl))
  f205 := Tryz.func196.trans (congrArg some (by kernel_rfl))
  f243 := Tryz.func199.trans (congrArg some (by kernel_rfl))
  f245 := Tryz.func182.trans (congrArg some (by kernel_rfl))
  f246 := Tryz.func200.trans (congrArg some (by kernel_rfl))
  f247 := Tryz.func181.trans (congrArg some (by kernel_rfl))
  f279 := Tryz.func187.trans (congrArg some (by kernel_rfl))
  f280 := Tryz.func188.trans (congrArg some (by kernel_rfl))
  f281 := Tryz.func189.trans (congrArg some (by kernel_rfl))
  f282 := Tryz.func190.trans (congrArg some (by kernel_rfl))
  f283 := Tryz.func201.trans (congrArg some (by kernel_rfl))
  f284 := Tryz.func202.trans (congrArg some (by kernel_rfl))
  f285 := Tryz.func203.trans (congrArg some (by kernel_rfl))
  f286 := Tryz.func204.trans (congrArg some (by kernel_rfl))
  f287 := Tryz.func186.trans (congrArg some (by kernel_rfl))
  f316 := Tryz.func195.trans (congrArg some (by kernel_rfl))
  f317 := Tryz.func205.trans (congrArg some (by kernel_rfl))
  f318 := Tryz.func207.trans (congrArg some (by kernel_rfl))
  f319 := Tryz.func208.trans (congrArg some (by kernel_rfl))
  f320 := Tryz.func209.trans (congrArg some (by kernel_rfl))
  f321 := Tryz.func193.trans (congrArg some (by kernel_rfl))
  f322 := Tryz.func194.trans (congrArg some (by kernel_rfl))
  f337 := Tryz.func210.trans (congrArg some (by kernel_rfl))
  f338 := Tryz.func211.trans (congrArg some (by kernel_rfl))
  t0 := Tryz.underlying0
  a0 := Tryz.isAgg0
  z0 := Tryz.sizeOf0
  v0 := Tryz.zeroValue0
  t2 := Tryz.underlying2
  a2 := Tryz.isAgg2
  z2 := Tryz.sizeOf2
  v2 := Tryz.zeroValue2
  t3 := Tryz.underlying3
  a3 := Tryz.isAgg3
  z3 := Tryz.sizeOf3
  v3 := Tryz.zeroValue3
  t4 := Tryz.underlying4
  a4 := Tryz.isAgg4
  z4 := Tryz.sizeOf4
  v4 := Tryz.zeroValue4
  t5 := Tryz.underlying5
  a5 := Tryz.isAgg5
  z5 := Tryz.sizeOf5
  v5 := Tryz.zeroValue5
  t9 := Tryz.underlying9
  a9 := Tryz.isAgg9
  z9 := Tryz.sizeOf9
  v9 := Tryz.zeroValue9
  t20 := Tryz.underlying20
  a20 := Tryz.isAgg20
  z20 := Tryz.sizeOf20
  v20 := Tryz.zeroValue20
  t21 := Tryz.underlying21
  a21 := Tryz.isAgg21
  z21 := Tryz.sizeOf21
  v21 := Tryz.zeroValue21
  t37 := Tryz.underlying144
  a37 := Tryz.isAgg144
  z37 := Tryz.sizeOf144
  v37 := Tryz.zeroValue144
  t46 := Tryz.underlying248
  a46 := Tryz.isAgg248
  z46 := Tryz.sizeOf248
  v46 := Tryz.zeroValue248
  t51 := Tryz.underlying270
  a51 := Tryz.isAgg270
  z51 := Tryz.sizeOf270
  v51 := Tryz.zeroValue270
  t53 := Tryz.underlying245
  a53 := Tryz.isAgg245
  z53 := Tryz.sizeOf245
  v53 := Tryz.zeroValue245
  t75 := Tryz.underlying237
  a75 := Tryz.isAgg237
  z75 := Tryz.sizeOf237
  v75 := Tryz.zeroValue237
  t85 := Tryz.underlying238
  a85 := Tryz.isAgg238
  z85 := Tryz.sizeOf238
  v85 := Tryz.zeroValue238
  t127 := Tryz.underlying257
  a127 := Tryz.isAgg257
  z127 := Tryz.sizeOf257
  v127 := Tryz.zeroValue257
  t143 := Tryz.underlying258
  a143 := Tryz.isAgg258
  z143 := Tryz.sizeOf258
  v143 := Tryz.zeroValue258
  t145 := Tryz.underlying260
  a145 := Tryz.isAgg260
  z145 := Tryz.sizeOf260
  v145 := Tryz.zeroValue260
  t167 := Tryz.underlying244
  a167 := Tryz.isAgg244
  z167 := Tryz.sizeOf244
  v167 := Tryz.zeroValue244
  t168 := Tryz.underlying249
  a168 := Tryz.isAgg249
  z168 := Tryz.sizeOf249
  v168 := Tryz.zeroValue249
  t171 := Tryz.underlying262
  a171 := Tryz.isAgg262
  z171 := Tryz.sizeOf262
  v171 := Tryz.zeroValue262
  t173 := Tryz.underlying265
  a173 := Tryz.isAgg265
  z173 := Tryz.sizeOf265
  v173 := Tryz.zeroValue265
  t175 := Tryz.underlying246
  a175 := Tryz.isAgg246
  z175 := Tryz.sizeOf246
  v175 := Tryz.zeroValue246
  t210 := Tryz.underlying255
  a210 := Tryz.isAgg255
  z210 := Tryz.sizeOf255
  v210 := Tryz.zeroValue255
  t212 := Tryz.underlying269
  a212 := Tryz.isAgg269
  z212 := Tryz.sizeOf269
  v212 := Tryz.zeroValue269
  t213 := Tryz.underlying271
  a213 := Tryz.isAgg271
  z213 := Tryz.sizeOf271
  t232 := Tryz.underlying275
  a232 := Tryz.isAgg275
  z232 := Tryz.sizeOf275
  v232 := Tryz.zeroValue275
  t233 := Tryz.underlying276
  a233 := Tryz.isAgg276
  z233 := Tryz.sizeOf276
  v233 := Tryz.zeroValue276
  g15 := by kernel_rfl
  g16 := by kernel_rfl
  g17 := by kernel_rfl
  g18 := by kernel_rfl
  g19 := by kernel_rfl
  t80 := Tryz.underlying277
  a80 := Tryz.isAgg277
  z80 := Tryz.sizeOf277
  v80 := Tryz.zeroValue277
  i0 := by kernel_rfl
  i2 := by kernel_rfl
  i3 := by kernel_rfl
  i4 := by kernel_rfl
  i5 := by kernel_rfl
  i9 := by kernel_rfl
  i20 := by kernel_rfl
  i21 := by kernel_rfl
  i37 := by kernel_rfl
  i46 := by kernel_rfl
  i51 := by kernel_rfl
  i53 := by kernel_rfl
  i75 := by kernel_rfl
  i80 := by kernel_rfl
  i85 := by kernel_rfl
  i127 := by kernel_rfl
  i143 := by kernel_rfl
  i145 := by kernel_rfl
  i167 := by kernel_rfl
  i168 := by kernel_rfl
  i171 := by kernel_rfl
  i173 := by kernel_rfl
  i175 := by kernel_rfl
  i210 := by kernel_rfl
  i212 := by kernel_rfl
  i232 := by kernel_rfl
  i233 := by kernel_rfl
  m15 := by kernel_rfl
  m16 := by kernel_rfl
  m17 := by kernel_rfl
  m18 := by kernel_rfl
  m19 := by kernel_rfl
  c0 := by kernel_rfl
  c2 := by kernel_rfl
  c3 := by kernel_rfl
  c4 := by kernel_rfl
  c5 := by kernel_rfl
  c9 := by kernel_rfl
  c20 := by kernel_rfl
  c21 := by kernel_rfl
  c37 := by kernel_rfl
  c46 := by kernel_rfl
  c51 := by kernel_rfl
  c53 := by kernel_rfl
  c75 := by kernel_rfl
  c80 := by kernel_rfl
  c85 := by kernel_rfl
  c127 := by kernel_rfl
  c143 := by kernel_rfl
  c145 := by kernel_rfl
  c167 := by kernel_rfl
  c168 := by kernel_rfl
  c171 := by kernel_rfl
  c173 := by kernel_rfl
  c175 := by kernel_rfl
  c210 := by kernel_rfl
  c212 := by kernel_rfl
  c213 := by kernel_rfl
  c232 := by kernel_rfl
  c233 := by kernel_rfl }
open Go.RowKit in
theorem Tryz.strconv_ParseInt_10_at32_ok (s : ByteArray) (hmax : s.size ≤ 9223372036854775806) (v : Int) (h : Lib.parseIntB 32 s.data.toList = .ok v) (w : World) :
    Calls Tryz.prog 177 #[.string s, .int .i64 10, .int .i64 32] w fun e w' => e = .returned (.tuple #[.int .i64 v, .nilIface]) ∧ (w' = w ∨ ∃ t, w' = Lib.bytesWorld w 5 t) := Any.strconv_ParseInt_10_at32_ok Tryz.laysC174 s hmax v h w
open Go.RowKit in
theorem Tryz.strconv_ParseInt_10_at32_none (s : ByteArray) (hlim : s.size ≤ 281474976710656) (h : Lib.parseIntB 32 s.data.toList = Lib.parseIntB 32 []) (ev : Value) (w : World) (hv : w.cell? ⟨0, 0, none⟩ = some ev) (hev : ev = .nilIface ∨ ∃ te pe, ev = .iface te pe) :
    Calls Tryz.prog 177 #[.string s, .int .i64 10, .int .i64 32] w fun e w' => ∃ N, e = .returned (.tuple #[.int .i64 (0), .iface 249 (.pointer (some ⟨N, 0, none⟩))]) ∧ w.heap.size ≤ N ∧ w'.heap[N]? = some (.cells #[.string ⟨#[80, 97, 114, 115, 101, 73, 110, 116]⟩, .string s, ev] 255 (0, 0)) ∧ Below w.heap.size w w' := Any.strconv_ParseInt_10_at32_syntax Tryz.laysC174 s hlim (h.trans (by rfl)) ev w hv hev
open Go.RowKit in
theorem Tryz.strconv_ParseInt_10_at32_range (s : ByteArray) (hlim : s.size ≤ 281474976710656) (h : Lib.parseIntB 32 s.data.toList = .range) (ev : Value) (w : World) (hv : w.cell? ⟨1, 0, none⟩ = some ev) (hev : ev = .nilIface ∨ ∃ te pe, ev = .iface te pe) :
    Calls Tryz.prog 177 #[.string s, .int .i64 10, .int .i64 32] w fun e w' => ∃ N, e = .returned (.tuple #[.int .i64 (Lib.intSat 32 s.data.toList), .iface 249 (.pointer (some ⟨N, 0, none⟩))]) ∧ w.heap.size ≤ N ∧ w'.heap[N]? = some (.cells #[.string ⟨#[80, 97, 114, 115, 101, 73, 110, 116]⟩, .string s, ev] 255 (0, 0)) ∧ Below w.heap.size w w' := Any.strconv_ParseInt_10_at32_range Tryz.laysC174 s hlim h ev w hv hev
end Go.Proofs
end
section
namespace Go.Vs
open Go Go.Proofs Go.RowKit
def f32 (s : ByteArray) : Bool := okB s.data.toList
theorem wG {w w1 w2 : World} (h : Below w.heap.size w w1) (k : Below w1.heap.size w1 w2) : Below w.heap.size w w2 :=
  h.trans ⟨k.os, k.tape, k.output, k.size, fun j hj => k.block j (Nat.lt_of_lt_of_le hj h.size)⟩
theorem aPZ {w w1 : World} {e : TypeId} (h : w1 = w ∨ ∃ t, w1 = Lib.bytesWorld w e t) : Below w.heap.size w w1 := by
  rcases h with rfl | ⟨t, rfl⟩
  · exact Below.refl _ _
  · exact Lib.bytesWorld_below w e t
set_option maxHeartbeats 1000000 in
set_option maxRecDepth 100000 in
theorem aQe (s : ByteArray) (hs : s.size ≤ 281474976710656) (ok : Bool) (ev0 ev1 : Value) (w : World) (hv0 : w.cell? ⟨0, 0, none⟩ = some ev0) (hv1 : w.cell? ⟨1, 0, none⟩ = some ev1)
    (he0 : ev0 = .nilIface ∨ ∃ te pe, ev0 = .iface te pe) (he1 : ev1 = .nilIface ∨ ∃ te pe, ev1 = .iface te pe)
    (hI : ∀ w1, Below w.heap.size w w1 → Calls Tryz.prog 178 #[.string s] w1 fun e w' => e = .returned (.bool ok) ∧ Below w1.heap.size w1 w') :
    Calls Tryz.prog 170 #[.string s] w fun e w' => e = .returned (.bool (ok && f32 s)) ∧ Below w.heap.size w w' := by
  cases h : Lib.parseIntB 32 s.data.toList with
  | ok v =>
    have hf : f32 s = true := by unfold f32 okB; rw [h]
    go_enter Tryz.func170, Tryz.ntmps170
    go_wp2_with (first
      | (go_at_call 177; refine (Tryz.strconv_ParseInt_10_at32_ok s (by omega) v h _).mono ?_; rintro e w1 ⟨rfl, hw⟩; have hb1 : Below w.heap.size w w1 := aPZ hw)
      | (go_at_call 178; refine (hI _ hb1).mono ?_; rintro e w2 ⟨rfl, hb⟩))
    · go_ret; exact ⟨by simp_all, wG hb1 hb⟩
    · go_ret; exact ⟨by simp_all, wG hb1 hb⟩
  | range =>
    have hf : f32 s = false := by unfold f32 okB; rw [h]
    go_enter Tryz.func170, Tryz.ntmps170
    go_wp2_with (first
      | (go_at_call 177; refine (Tryz.strconv_ParseInt_10_at32_range s hs h ev1 _ hv1 he1).mono ?_; rintro e w1 ⟨N, rfl, _, _, hb1⟩)
      | (go_at_call 178; refine (hI _ hb1).mono ?_; rintro e w2 ⟨rfl, hb⟩))
    · go_ret; exact ⟨by simp_all, wG hb1 hb⟩
    · go_ret; exact ⟨by simp_all, wG hb1 hb⟩
  | _ =>
    have hf : f32 s = false := by unfold f32 okB; rw [h]
    go_enter Tryz.func170, Tryz.ntmps170
    go_wp2_with (first
      | (go_at_call 177; refine (Tryz.strconv_ParseInt_10_at32_none s hs (h.trans (by rfl)) ev0 _ hv0 he0).mono ?_; rintro e w1 ⟨N, rfl, _, _, hb1⟩)
      | (go_at_call 178; refine (hI _ hb1).mono ?_; rintro e w2 ⟨rfl, hb⟩))
    · go_ret; exact ⟨by simp_all, wG hb1 hb⟩
    · go_ret; exact ⟨by simp_all, wG hb1 hb⟩
end Go.Vs
end
section
open Go Go.Vs Go.Proofs
set_option linter.unusedVariables false
set_option linter.unusedSimpArgs false
namespace Go.Vs
set_option maxRecDepth 100000
noncomputable abbrev Dn0 : bK false := den Tryz.prog (fun _ => none) Hs
theorem aUA (l : List FuncId) : aLY Dn0 l := fun f _ a b r h => aMG rfl h
theorem hP : Tryz.prog.follows .mixedOrders = true := by kernel_rfl
theorem hG : Tryz.prog.funcs.all (fun fn => !(fn.name == "runtime.NumGoroutine")) = true := by kernel_rfl
def aP6 : List (SV false) → List (List (SV false)) → Ret false
  | [.leaf (.str s)], [] => if s.size ≤ 281474976710656 then some (aH (aDX s.data.toList && f32 s), []) else none
  | _, _ => none
abbrev tSt : TypeId := 91
noncomputable def iSt : TypeInfo := (Tryz.prog.info? T.aZz).getD default
theorem uSt : (Tryz.prog.underlying T.aZz).isSome = true := by kernel_rfl
theorem aVW : iSt.size = 1 := by kernel_rfl
theorem aWd : iSt.bytes = 16 := by kernel_rfl
theorem aSS {N : Env} : lS Tryz.prog N (fun g args boxes => if g = F.aWL then aJE (m := false) Tryz.prog T.aZz iSt false args boxes else none) := by
  intro g args boxes r hr hh hf
  replace hr : (if g = F.aWL then aJE (m := false) Tryz.prog T.aZz iSt false args boxes else none) = some r := hr
  split at hr
  · rename_i hg
    subst hg
    exact aQj (P := Tryz.prog) (t := tSt) (d0 := (Tryz.prog.underlying T.aZz).get uSt) (z := iSt.zero.getD undef) (by kernel_rfl : Tryz.prog.funcs[F.aWL]? = some (xZ Tryz.prog F.aWL)) (by kernel_rfl) (by kernel_rfl) (by kernel_rfl) (by kernel_rfl)
      (Option.some_get uSt).symm (by kernel_rfl) (by kernel_rfl) (by kernel_rfl) (by kernel_rfl) (Nat.lt_of_lt_of_eq (by decide : 0 < 1) aVW.symm) (Nat.lt_of_lt_of_eq (by decide : 0 < 16) aWd.symm) false args boxes r hr hh hf
  · simp at hr
noncomputable def aSo : aLb false := fun f => if f = F.aYY then some aP6 else if f = F.aWL then some (aJE Tryz.prog T.aZz iSt false) else none
def KOf (ev0 ev1 : Value) : xU := [((0, 0), ev0), ((1, 0), ev1)]
def wA (v : Value) : Prop := v = .nilIface ∨ ∃ te pe, v = .iface te pe
theorem aWc : ∃ fn, Tryz.prog.funcs[F.aYY]? = some fn ∧ (fn.name == "runtime.NumGoroutine") = false ∧ fn.body.isNone = false := ⟨xZ Tryz.prog F.aYY, by kernel_rfl, by kernel_rfl, by kernel_rfl⟩
theorem aRi {N : Env} {ev0 ev1 : Value} (hN : N.K = KOf ev0 ev1) (he0 : wA ev0) (he1 : wA ev1) : aMn Tryz.prog N aSo := by
  intro f t ht g args boxes r hr hh hf
  unfold aSo at ht
  split at ht
  · rename_i hff
    subst hff
    simp -implicitDefEqProofs only [Option.some.injEq] at ht
    subst ht
    replace hr : (if g = F.aYY then aP6 args boxes else none) = some r := hr
    split at hr
    · rename_i hg
      subst hg
      unfold aP6 at hr
      split at hr
      · rename_i s
        split at hr
        · rename_i hs
          simp -implicitDefEqProofs only [Option.some.injEq] at hr
          subst hr
          refine ⟨rfl, rfl, fun cs hcs => by simp at hcs, aWc, fun w F1 Ow bm vals hI => ?_⟩
          obtain rfl := aUR hI
          have k0 := hI.low.know ((0, 0), ev0) (by rw [hN]; simp [KOf])
          have k1 := hI.low.know ((1, 0), ev1) (by rw [hN]; simp [KOf])
          refine (aQe s hs (aDX s.data.toList) ev0 ev1 w k0.2.2 k1.2.2 he0 he1 fun w1 _ => ?_).mono fun e w' ⟨he, hb⟩ => ?_
          · have hD : lS Tryz.prog (N0 w1 []) Dn0 := aJ5 hP hG aPV Hs
            have hm : (281474976710656 : Nat) ≤ maxLen := by decide
            have hc : Dn0 F.aZj [.leaf (.str s)] [] = some (aH (aDX s.data.toList), []) := aUT (aUA _) (Nat.le_trans hs hm)
            refine (aSv (K := []) hD hc rfl (vals := #[.string s]) rfl (fun j a v ha hv => ?_)).mono fun e w2 ⟨v, F', Ow', bm', al, he, hv, hb⟩ => ?_
            · cases j with
              | zero =>
                simp -implicitDefEqProofs only [List.getElem?_cons_zero, Option.some.injEq] at ha
                subst ha
                have : v = .string s := by simpa using hv.symm
                subst this
                exact aR.leaf (eB.str s)
              | succ j => simp at ha
            · have h2 : eB w2 F' (N0 w1 []) (aC.bool (aDX s.data.toList) : aC false) v := by simpa [aR, dF] using hv
              cases h2
              exact ⟨he, hb⟩
          · exact ⟨_, F1, Ow, he, aSg hI hb (eB.bool _), aSH hI hb⟩
        · simp at hr
      · simp at hr
    · simp at hr
  · split at ht
    · rename_i _ hff
      subst hff
      simp -implicitDefEqProofs only [Option.some.injEq] at ht
      subst ht
      exact aSS g args boxes r hr hh hf
    · simp at ht
end Go.Vs
end
section
set_option linter.unusedVariables false
namespace Go.Vs
mutual
def bdF (B : Nat) : aC false → Prop
  | .str s => s.size ≤ B
  | .sl _ es => es.length ≤ B ∧ bdE B es
  | _ => True
def bdL (B : Nat) : List (aC false) → Prop
  | [] => True
  | l :: r => bdF B l ∧ bdL B r
def bdE (B : Nat) : List (List (aC false)) → Prop
  | [] => True
  | e :: es => bdL B e ∧ bdE B es
end
theorem lA {B : Nat} : ∀ {es : List (List (aC false))}, bdE B es → ∀ e ∈ es, bdL B e
  | x :: r, h, e, he => by
    rw [bdE] at h
    rcases List.mem_cons.1 he with rfl | he
    · exact h.1
    · exact lA h.2 e he
mutual
theorem aTV {z B : Nat} (hB : (B : Int) ≤ cap) : ∀ (l : aC false) (n : Int), okF z l → 0 ≤ n → n ≤ B → 0 ≤ szF l n → bdF B l
  | .str s, n, ho, h0, hn, h => by
    have hm : maxLen = 9223372036854775807 := rfl
    simp only [okF] at ho
    simp only [szF, bdF, cap] at *
    rw [nS (by omega) (by omega)] at h
    split at h <;> omega
  | .sl _ es, n, ho, h0, hn, h => by
    have hm : maxLen = 9223372036854775807 := rfl
    simp only [okF] at ho
    simp only [szF, bdF] at *
    rw [nS (by simp only [cap] at hB; omega) (by simp only [cap] at hB; omega)] at h
    by_cases hl : n - (es.length : Int) < 0
    · simp [hl] at h
    · simp only [hl, if_false] at h
      exact ⟨by omega, aUr hB es _ ho.2 (by omega) (by omega) h⟩
  | .bool _, n, _, _, _, _ => by simp [bdF]
  | .int _ _, n, _, _, _, _ => by simp [bdF]
  | .unk, n, _, _, _, _ => by simp [bdF]
  | .nl _, n, _, _, _, _ => by simp [bdF]
theorem aQ2 {z B : Nat} (hB : (B : Int) ≤ cap) : ∀ (l : List (aC false)) (n : Int), okL z l → 0 ≤ n → n ≤ B → 0 ≤ szL l n → bdL B l
  | [], n, _, _, _, _ => by simp [bdL]
  | l :: r, n, ho, h0, hn, h => by
    simp only [okL] at ho
    simp only [szL, bdL] at *
    by_cases hl : szF l n < 0
    · simp [hl] at h
    · simp only [hl, if_false] at h
      have h1 := aTa l n ho.1 h0 (by omega) (by omega)
      exact ⟨aTV hB l n ho.1 h0 hn (by omega), aQ2 hB r _ ho.2 (by omega) (by omega) h⟩
theorem aUr {z B : Nat} (hB : (B : Int) ≤ cap) : ∀ (l : List (List (aC false))) (n : Int), okE z l → 0 ≤ n → n ≤ B → 0 ≤ szE l n → bdE B l
  | [], n, _, _, _, _ => by simp [bdE]
  | e :: r, n, ho, h0, hn, h => by
    simp only [okE] at ho
    simp only [szE, bdE] at *
    by_cases hl : szL e n < 0
    · simp [hl] at h
    · simp only [hl, if_false] at h
      have h1 := aRD e n ho.2.1 h0 (by omega) (by omega)
      exact ⟨aQ2 hB e n ho.2.1 h0 hn (by omega), aUr hB r _ ho.2.2 (by omega) (by omega) h⟩
end
end Go.Vs
end
section
open Go Go.Vs Go.Proofs
set_option linter.unusedVariables false
set_option linter.unusedSimpArgs false
namespace Go.Vs
noncomputable abbrev Dn : bK false := den Go.Proofs.Tryz.prog aSo Hs
theorem aP {f : FuncId} {a : List (SV false)} {b : List (List (SV false))} {r : SV false × List (List (SV false))} (h : aT Go.Proofs.Tryz.prog Dn Hs bA f a b = some r) (hf : aSo f = none := by rfl) : Dn f a b = some r :=
  aMG hf h
inductive nD : List (aC false) → Prop
  | mk (s0 : ByteArray) (s1 : ByteArray) (h0 : s0.size ≤ maxLen) (h1 : s1.size ≤ maxLen) : nD [.str s0, .str s1]
theorem nD.ex {ls : List (aC false)} (h : nD ls) : ∃ (s0 : ByteArray) (s1 : ByteArray), ls = [.str s0, .str s1] ∧ s0.size ≤ maxLen ∧ s1.size ≤ maxLen := by
  cases h with
  | mk s0 s1 h0 h1 => exact ⟨s0, s1, rfl, h0, h1⟩
theorem nD.len {ls : List (aC false)} (h : nD ls) : ls.length = 2 := by cases h; rfl
theorem nD.ok {ls : List (aC false)} (h : nD ls) : okL 16 ls := by
  cases h with
  | mk s0 s1 h0 h1 => simp only [okL, okF]; exact ⟨h0, h1, trivial⟩
inductive cS : List (aC false) → Prop
  | mk (i0 : Int) (s1 : ByteArray) (e2 : List (List (aC false))) (e3 : List (List (aC false))) (h1 : s1.size ≤ maxLen) (h2 : e2.length ≤ maxLen) (q2 : ∀ e ∈ e2, cS e) (h3 : e3.length ≤ maxLen) (q3 : ∀ e ∈ e3, jS e) : cS [.int .i64 i0, .str s1, .sl fP e2, .sl fP e3]
theorem cS.ex {ls : List (aC false)} (h : cS ls) : ∃ (i0 : Int) (s1 : ByteArray) (e2 : List (List (aC false))) (e3 : List (List (aC false))), ls = [.int .i64 i0, .str s1, .sl fP e2, .sl fP e3] ∧ s1.size ≤ maxLen ∧ e2.length ≤ maxLen ∧ (∀ e ∈ e2, cS e) ∧ e3.length ≤ maxLen ∧ (∀ e ∈ e3, jS e) := by
  cases h with
  | mk i0 s1 e2 e3 h1 h2 q2 h3 q3 => exact ⟨i0, s1, e2, e3, rfl, h1, h2, q2, h3, q3⟩
theorem cS.len {ls : List (aC false)} (h : cS ls) : ls.length = 4 := by cases h; rfl
theorem cS.ok {ls : List (aC false)} (h : cS ls) : okL 16 ls := by
  induction h with
  | mk i0 s1 e2 e3 h1 h2 q2 h3 q3 ih2 => simp only [okL, okF]; exact ⟨trivial, h1, ⟨h2, kL fun e he => ⟨by have := (q2 e he).len; omega, ih2 e he⟩⟩, ⟨h3, kL fun e he => ⟨by have := (q3 e he).len; omega, (q3 e he).ok⟩⟩, trivial⟩
inductive gO : List (aC false) → Prop
  | mk (s0 : ByteArray) (i1 : Int) (s2 : ByteArray) (e3 : List (List (aC false))) (e4 : List (List (aC false))) (h0 : s0.size ≤ maxLen) (h2 : s2.size ≤ maxLen) (h3 : e3.length ≤ maxLen) (q3 : ∀ e ∈ e3, cS e) (h4 : e4.length ≤ maxLen) (q4 : ∀ e ∈ e4, jS e) : gO [.str s0, .int .i64 i1, .str s2, .sl fP e3, .sl fP e4]
theorem gO.ex {ls : List (aC false)} (h : gO ls) : ∃ (s0 : ByteArray) (i1 : Int) (s2 : ByteArray) (e3 : List (List (aC false))) (e4 : List (List (aC false))), ls = [.str s0, .int .i64 i1, .str s2, .sl fP e3, .sl fP e4] ∧ s0.size ≤ maxLen ∧ s2.size ≤ maxLen ∧ e3.length ≤ maxLen ∧ (∀ e ∈ e3, cS e) ∧ e4.length ≤ maxLen ∧ (∀ e ∈ e4, jS e) := by
  cases h with
  | mk s0 i1 s2 e3 e4 h0 h2 h3 q3 h4 q4 => exact ⟨s0, i1, s2, e3, e4, rfl, h0, h2, h3, q3, h4, q4⟩
theorem gO.len {ls : List (aC false)} (h : gO ls) : ls.length = 5 := by cases h; rfl
theorem gO.ok {ls : List (aC false)} (h : gO ls) : okL 16 ls := by
  cases h with
  | mk s0 i1 s2 e3 e4 h0 h2 h3 q3 h4 q4 => simp only [okL, okF]; exact ⟨h0, trivial, h2, ⟨h3, kL fun e he => ⟨by have := (q3 e he).len; omega, (q3 e he).ok⟩⟩, ⟨h4, kL fun e he => ⟨by have := (q4 e he).len; omega, (q4 e he).ok⟩⟩, trivial⟩
inductive eQ : List (aC false) → Prop
  | mk (s0 : ByteArray) (e1 : List (List (aC false))) (h0 : s0.size ≤ maxLen) (h1 : e1.length ≤ maxLen) (q1 : ∀ e ∈ e1, gO e) : eQ [.str s0, .sl fP e1]
theorem eQ.ex {ls : List (aC false)} (h : eQ ls) : ∃ (s0 : ByteArray) (e1 : List (List (aC false))), ls = [.str s0, .sl fP e1] ∧ s0.size ≤ maxLen ∧ e1.length ≤ maxLen ∧ (∀ e ∈ e1, gO e) := by
  cases h with
  | mk s0 e1 h0 h1 q1 => exact ⟨s0, e1, rfl, h0, h1, q1⟩
theorem eQ.len {ls : List (aC false)} (h : eQ ls) : ls.length = 2 := by cases h; rfl
theorem eQ.ok {ls : List (aC false)} (h : eQ ls) : okL 16 ls := by
  cases h with
  | mk s0 e1 h0 h1 q1 => simp only [okL, okF]; exact ⟨h0, ⟨h1, kL fun e he => ⟨by have := (q1 e he).len; omega, (q1 e he).ok⟩⟩, trivial⟩
inductive dB : List (aC false) → Prop
  | mk (s0 : ByteArray) (s1 : ByteArray) (s2 : ByteArray) (s3 : ByteArray) (b4 : Bool) (i5 : Int) (s6 : ByteArray) (e7 : List (List (aC false))) (e8 : List (List (aC false))) (e9 : List (List (aC false))) (h0 : s0.size ≤ maxLen) (h1 : s1.size ≤ maxLen) (h2 : s2.size ≤ maxLen) (h3 : s3.size ≤ maxLen) (h6 : s6.size ≤ maxLen) (h7 : e7.length ≤ maxLen) (q7 : ∀ e ∈ e7, cS e) (h8 : e8.length ≤ maxLen) (q8 : ∀ e ∈ e8, jS e) (h9 : e9.length ≤ maxLen) (q9 : ∀ e ∈ e9, eQ e) : dB [.str s0, .str s1, .str s2, .str s3, .bool b4, .int .i64 i5, .str s6, .sl fP e7, .sl fP e8, .sl fP e9]
theorem dB.ex {ls : List (aC false)} (h : dB ls) : ∃ (s0 : ByteArray) (s1 : ByteArray) (s2 : ByteArray) (s3 : ByteArray) (b4 : Bool) (i5 : Int) (s6 : ByteArray) (e7 : List (List (aC false))) (e8 : List (List (aC false))) (e9 : List (List (aC false))), ls = [.str s0, .str s1, .str s2, .str s3, .bool b4, .int .i64 i5, .str s6, .sl fP e7, .sl fP e8, .sl fP e9] ∧ s0.size ≤ maxLen ∧ s1.size ≤ maxLen ∧ s2.size ≤ maxLen ∧ s3.size ≤ maxLen ∧ s6.size ≤ maxLen ∧ e7.length ≤ maxLen ∧ (∀ e ∈ e7, cS e) ∧ e8.length ≤ maxLen ∧ (∀ e ∈ e8, jS e) ∧ e9.length ≤ maxLen ∧ (∀ e ∈ e9, eQ e) := by
  cases h with
  | mk s0 s1 s2 s3 b4 i5 s6 e7 e8 e9 h0 h1 h2 h3 h6 h7 q7 h8 q8 h9 q9 => exact ⟨s0, s1, s2, s3, b4, i5, s6, e7, e8, e9, rfl, h0, h1, h2, h3, h6, h7, q7, h8, q8, h9, q9⟩
theorem dB.len {ls : List (aC false)} (h : dB ls) : ls.length = 10 := by cases h; rfl
theorem dB.ok {ls : List (aC false)} (h : dB ls) : okL 16 ls := by
  cases h with
  | mk s0 s1 s2 s3 b4 i5 s6 e7 e8 e9 h0 h1 h2 h3 h6 h7 q7 h8 q8 h9 q9 => simp only [okL, okF]; exact ⟨h0, h1, h2, h3, trivial, trivial, h6, ⟨h7, kL fun e he => ⟨by have := (q7 e he).len; omega, (q7 e he).ok⟩⟩, ⟨h8, kL fun e he => ⟨by have := (q8 e he).len; omega, (q8 e he).ok⟩⟩, ⟨h9, kL fun e he => ⟨by have := (q9 e he).len; omega, (q9 e he).ok⟩⟩, trivial⟩
inductive cC : List (aC false) → Prop
  | mk (s0 : ByteArray) (s1 : ByteArray) (e2 : List (List (aC false))) (s3 : ByteArray) (s4 : ByteArray) (e5 : List (List (aC false))) (h0 : s0.size ≤ maxLen) (h1 : s1.size ≤ maxLen) (h2 : e2.length ≤ maxLen) (q2 : ∀ e ∈ e2, dB e) (h3 : s3.size ≤ maxLen) (h4 : s4.size ≤ maxLen) (h5 : e5.length ≤ maxLen) (q5 : ∀ e ∈ e5, eQ e) : cC [.str s0, .str s1, .sl fP e2, .str s3, .str s4, .sl fP e5]
theorem cC.ex {ls : List (aC false)} (h : cC ls) : ∃ (s0 : ByteArray) (s1 : ByteArray) (e2 : List (List (aC false))) (s3 : ByteArray) (s4 : ByteArray) (e5 : List (List (aC false))), ls = [.str s0, .str s1, .sl fP e2, .str s3, .str s4, .sl fP e5] ∧ s0.size ≤ maxLen ∧ s1.size ≤ maxLen ∧ e2.length ≤ maxLen ∧ (∀ e ∈ e2, dB e) ∧ s3.size ≤ maxLen ∧ s4.size ≤ maxLen ∧ e5.length ≤ maxLen ∧ (∀ e ∈ e5, eQ e) := by
  cases h with
  | mk s0 s1 e2 s3 s4 e5 h0 h1 h2 q2 h3 h4 h5 q5 => exact ⟨s0, s1, e2, s3, s4, e5, rfl, h0, h1, h2, q2, h3, h4, h5, q5⟩
theorem cC.len {ls : List (aC false)} (h : cC ls) : ls.length = 6 := by cases h; rfl
theorem cC.ok {ls : List (aC false)} (h : cC ls) : okL 16 ls := by
  cases h with
  | mk s0 s1 e2 s3 s4 e5 h0 h1 h2 q2 h3 h4 h5 q5 => simp only [okL, okF]; exact ⟨h0, h1, ⟨h2, kL fun e he => ⟨by have := (q2 e he).len; omega, (q2 e he).ok⟩⟩, h3, h4, ⟨h5, kL fun e he => ⟨by have := (q5 e he).len; omega, (q5 e he).ok⟩⟩, trivial⟩
inductive cX : List (aC false) → Prop
  | mk (s0 : ByteArray) (s1 : ByteArray) (e2 : List (List (aC false))) (h0 : s0.size ≤ maxLen) (h1 : s1.size ≤ maxLen) (h2 : e2.length ≤ maxLen) (q2 : ∀ e ∈ e2, eQ e) : cX [.str s0, .str s1, .sl fP e2]
theorem cX.ex {ls : List (aC false)} (h : cX ls) : ∃ (s0 : ByteArray) (s1 : ByteArray) (e2 : List (List (aC false))), ls = [.str s0, .str s1, .sl fP e2] ∧ s0.size ≤ maxLen ∧ s1.size ≤ maxLen ∧ e2.length ≤ maxLen ∧ (∀ e ∈ e2, eQ e) := by
  cases h with
  | mk s0 s1 e2 h0 h1 h2 q2 => exact ⟨s0, s1, e2, rfl, h0, h1, h2, q2⟩
theorem cX.len {ls : List (aC false)} (h : cX ls) : ls.length = 3 := by cases h; rfl
theorem cX.ok {ls : List (aC false)} (h : cX ls) : okL 16 ls := by
  cases h with
  | mk s0 s1 e2 h0 h1 h2 q2 => simp only [okL, okF]; exact ⟨h0, h1, ⟨h2, kL fun e he => ⟨by have := (q2 e he).len; omega, (q2 e he).ok⟩⟩, trivial⟩
inductive eV : List (aC false) → Prop
  | mk (i0 : Int) (s1 : ByteArray) (h1 : s1.size ≤ maxLen) : eV [.int .i64 i0, .str s1]
theorem eV.ex {ls : List (aC false)} (h : eV ls) : ∃ (i0 : Int) (s1 : ByteArray), ls = [.int .i64 i0, .str s1] ∧ s1.size ≤ maxLen := by
  cases h with
  | mk i0 s1 h1 => exact ⟨i0, s1, rfl, h1⟩
theorem eV.len {ls : List (aC false)} (h : eV ls) : ls.length = 2 := by cases h; rfl
theorem eV.ok {ls : List (aC false)} (h : eV ls) : okL 16 ls := by
  cases h with
  | mk i0 s1 h1 => simp only [okL, okF]; exact ⟨trivial, h1, trivial⟩
inductive fC : List (aC false) → Prop
  | mk (i0 : Int) (b1 : Bool) (s2 : ByteArray) (s3 : ByteArray) (e4 : List (List (aC false))) (e5 : List (List (aC false))) (e6 : List (List (aC false))) (e7 : List (List (aC false))) (e8 : List (List (aC false))) (b9 : Bool) (e10 : List (List (aC false))) (h2 : s2.size ≤ maxLen) (h3 : s3.size ≤ maxLen) (h4 : e4.length ≤ maxLen) (q4 : ∀ e ∈ e4, jS e) (h5 : e5.length ≤ maxLen) (q5 : ∀ e ∈ e5, cC e) (h6 : e6.length ≤ maxLen) (q6 : ∀ e ∈ e6, dB e) (h7 : e7.length ≤ maxLen) (q7 : ∀ e ∈ e7, cX e) (h8 : e8.length ≤ maxLen) (q8 : ∀ e ∈ e8, eV e) (h10 : e10.length ≤ maxLen) (q10 : ∀ e ∈ e10, eQ e) : fC [.int .i64 i0, .bool b1, .str s2, .str s3, .sl fP e4, .sl fP e5, .sl fP e6, .sl fP e7, .sl fP e8, .bool b9, .sl fP e10]
theorem fC.ex {ls : List (aC false)} (h : fC ls) : ∃ (i0 : Int) (b1 : Bool) (s2 : ByteArray) (s3 : ByteArray) (e4 : List (List (aC false))) (e5 : List (List (aC false))) (e6 : List (List (aC false))) (e7 : List (List (aC false))) (e8 : List (List (aC false))) (b9 : Bool) (e10 : List (List (aC false))), ls = [.int .i64 i0, .bool b1, .str s2, .str s3, .sl fP e4, .sl fP e5, .sl fP e6, .sl fP e7, .sl fP e8, .bool b9, .sl fP e10] ∧ s2.size ≤ maxLen ∧ s3.size ≤ maxLen ∧ e4.length ≤ maxLen ∧ (∀ e ∈ e4, jS e) ∧ e5.length ≤ maxLen ∧ (∀ e ∈ e5, cC e) ∧ e6.length ≤ maxLen ∧ (∀ e ∈ e6, dB e) ∧ e7.length ≤ maxLen ∧ (∀ e ∈ e7, cX e) ∧ e8.length ≤ maxLen ∧ (∀ e ∈ e8, eV e) ∧ e10.length ≤ maxLen ∧ (∀ e ∈ e10, eQ e) := by
  cases h with
  | mk i0 b1 s2 s3 e4 e5 e6 e7 e8 b9 e10 h2 h3 h4 q4 h5 q5 h6 q6 h7 q7 h8 q8 h10 q10 => exact ⟨i0, b1, s2, s3, e4, e5, e6, e7, e8, b9, e10, rfl, h2, h3, h4, q4, h5, q5, h6, q6, h7, q7, h8, q8, h10, q10⟩
theorem fC.len {ls : List (aC false)} (h : fC ls) : ls.length = 11 := by cases h; rfl
theorem fC.ok {ls : List (aC false)} (h : fC ls) : okL 16 ls := by
  cases h with
  | mk i0 b1 s2 s3 e4 e5 e6 e7 e8 b9 e10 h2 h3 h4 q4 h5 q5 h6 q6 h7 q7 h8 q8 h10 q10 => simp only [okL, okF]; exact ⟨trivial, trivial, h2, h3, ⟨h4, kL fun e he => ⟨by have := (q4 e he).len; omega, (q4 e he).ok⟩⟩, ⟨h5, kL fun e he => ⟨by have := (q5 e he).len; omega, (q5 e he).ok⟩⟩, ⟨h6, kL fun e he => ⟨by have := (q6 e he).len; omega, (q6 e he).ok⟩⟩, ⟨h7, kL fun e he => ⟨by have := (q7 e he).len; omega, (q7 e he).ok⟩⟩, ⟨h8, kL fun e he => ⟨by have := (q8 e he).len; omega, (q8 e he).ok⟩⟩, trivial, ⟨h10, kL fun e he => ⟨by have := (q10 e he).len; omega, (q10 e he).ok⟩⟩, trivial⟩
inductive bM : List (aC false) → Prop
  | mk (e0 : List (List (aC false))) (e1 : List (List (aC false))) (e2 : List (List (aC false))) (h0 : e0.length ≤ maxLen) (q0 : ∀ e ∈ e0, fC e) (h1 : e1.length ≤ maxLen) (q1 : ∀ e ∈ e1, fC e) (h2 : e2.length ≤ maxLen) (q2 : ∀ e ∈ e2, eV e) : bM [.sl fP e0, .sl fP e1, .sl fP e2]
theorem bM.ex {ls : List (aC false)} (h : bM ls) : ∃ (e0 : List (List (aC false))) (e1 : List (List (aC false))) (e2 : List (List (aC false))), ls = [.sl fP e0, .sl fP e1, .sl fP e2] ∧ e0.length ≤ maxLen ∧ (∀ e ∈ e0, fC e) ∧ e1.length ≤ maxLen ∧ (∀ e ∈ e1, fC e) ∧ e2.length ≤ maxLen ∧ (∀ e ∈ e2, eV e) := by
  cases h with
  | mk e0 e1 e2 h0 q0 h1 q1 h2 q2 => exact ⟨e0, e1, e2, rfl, h0, q0, h1, q1, h2, q2⟩
theorem bM.len {ls : List (aC false)} (h : bM ls) : ls.length = 3 := by cases h; rfl
theorem bM.ok {ls : List (aC false)} (h : bM ls) : okL 16 ls := by
  cases h with
  | mk e0 e1 e2 h0 q0 h1 q1 h2 q2 => simp only [okL, okF]; exact ⟨⟨h0, kL fun e he => ⟨by have := (q0 e he).len; omega, (q0 e he).ok⟩⟩, ⟨h1, kL fun e he => ⟨by have := (q1 e he).len; omega, (q1 e he).ok⟩⟩, ⟨h2, kL fun e he => ⟨by have := (q2 e he).len; omega, (q2 e he).ok⟩⟩, trivial⟩
inductive eC : List (aC false) → Prop
  | mk (i0 : Int) (s1 : ByteArray) (s2 : ByteArray) (s3 : ByteArray) (e4 : List (List (aC false))) (e5 : List (List (aC false))) (e6 : List (List (aC false))) (h1 : s1.size ≤ maxLen) (h2 : s2.size ≤ maxLen) (h3 : s3.size ≤ maxLen) (h4 : e4.length ≤ maxLen) (q4 : ∀ e ∈ e4, gO e) (h5 : e5.length ≤ maxLen) (q5 : ∀ e ∈ e5, eQ e) (h6 : e6.length ≤ maxLen) (q6 : ∀ e ∈ e6, eC e) : eC [.int .i64 i0, .str s1, .str s2, .str s3, .sl fP e4, .sl fP e5, .sl fP e6]
theorem eC.ex {ls : List (aC false)} (h : eC ls) : ∃ (i0 : Int) (s1 : ByteArray) (s2 : ByteArray) (s3 : ByteArray) (e4 : List (List (aC false))) (e5 : List (List (aC false))) (e6 : List (List (aC false))), ls = [.int .i64 i0, .str s1, .str s2, .str s3, .sl fP e4, .sl fP e5, .sl fP e6] ∧ s1.size ≤ maxLen ∧ s2.size ≤ maxLen ∧ s3.size ≤ maxLen ∧ e4.length ≤ maxLen ∧ (∀ e ∈ e4, gO e) ∧ e5.length ≤ maxLen ∧ (∀ e ∈ e5, eQ e) ∧ e6.length ≤ maxLen ∧ (∀ e ∈ e6, eC e) := by
  cases h with
  | mk i0 s1 s2 s3 e4 e5 e6 h1 h2 h3 h4 q4 h5 q5 h6 q6 => exact ⟨i0, s1, s2, s3, e4, e5, e6, rfl, h1, h2, h3, h4, q4, h5, q5, h6, q6⟩
theorem eC.len {ls : List (aC false)} (h : eC ls) : ls.length = 7 := by cases h; rfl
theorem eC.ok {ls : List (aC false)} (h : eC ls) : okL 16 ls := by
  induction h with
  | mk i0 s1 s2 s3 e4 e5 e6 h1 h2 h3 h4 q4 h5 q5 h6 q6 ih6 => simp only [okL, okF]; exact ⟨trivial, h1, h2, h3, ⟨h4, kL fun e he => ⟨by have := (q4 e he).len; omega, (q4 e he).ok⟩⟩, ⟨h5, kL fun e he => ⟨by have := (q5 e he).len; omega, (q5 e he).ok⟩⟩, ⟨h6, kL fun e he => ⟨by have := (q6 e he).len; omega, ih6 e he⟩⟩, trivial⟩
inductive dP : List (aC false) → Prop
  | mk (i0 : Int) (s1 : ByteArray) (s2 : ByteArray)  : dP [.int .i64 i0, .str s1, .str s2]
theorem dP.ex {ls : List (aC false)} (h : dP ls) : ∃ (i0 : Int) (s1 : ByteArray) (s2 : ByteArray), ls = [.int .i64 i0, .str s1, .str s2] := by
  cases h with
  | mk i0 s1 s2  => exact ⟨i0, s1, s2, rfl⟩
theorem dP.len {ls : List (aC false)} (h : dP ls) : ls.length = 3 := by cases h; rfl
theorem nD.st {e : El} (h : nD e) : ∃ x : eM, e = x.l ∧ nD x.l := by
  cases h with
  | mk s0 s1 h0 h1 => exact ⟨⟨s0, s1⟩, rfl, .mk s0 s1 h0 h1⟩
theorem nD.of {e : El} (h : nD e) : (eM.of e).l = e := by obtain ⟨x, rfl, _⟩ := h.st; rfl
theorem nD.nosl {e : El} (h : nD e) : e.all aSK = true := by obtain ⟨x, rfl, _⟩ := h.st; rfl
theorem nD.p {x : eM} (h : nD x.l) : (x.a0.size ≤ maxLen) ∧ (x.a1.size ≤ maxLen) := by
  obtain ⟨s0, s1⟩ := x
  have h1 : nD [.str s0, .str s1] := h
  cases h1 with
  | mk _ _ h0 h1 => exact ⟨h0, h1⟩
theorem cS.st {e : El} (h : cS e) : ∃ x : cG, e = x.l ∧ cS x.l := by
  cases h with
  | mk i0 s1 e2 e3 h1 h2 q2 h3 q3 => exact ⟨⟨i0, s1, e2, e3⟩, rfl, .mk i0 s1 e2 e3 h1 h2 q2 h3 q3⟩
theorem cS.of {e : El} (h : cS e) : (cG.of e).l = e := by obtain ⟨x, rfl, _⟩ := h.st; rfl
theorem cS.p {x : cG} (h : cS x.l) : (x.a1.size ≤ maxLen) ∧ (x.a2.length ≤ maxLen) ∧ (∀ e ∈ x.a2, cS e) ∧ (x.a3.length ≤ maxLen) ∧ (∀ e ∈ x.a3, jS e) := by
  obtain ⟨i0, s1, e2, e3⟩ := x
  have h1 : cS [.int .i64 i0, .str s1, .sl fP e2, .sl fP e3] := h
  cases h1 with
  | mk _ _ _ _ h1 h2 q2 h3 q3 => exact ⟨h1, h2, q2, h3, q3⟩
theorem gO.st {e : El} (h : gO e) : ∃ x : dL, e = x.l ∧ gO x.l := by
  cases h with
  | mk s0 i1 s2 e3 e4 h0 h2 h3 q3 h4 q4 => exact ⟨⟨s0, i1, s2, e3, e4⟩, rfl, .mk s0 i1 s2 e3 e4 h0 h2 h3 q3 h4 q4⟩
theorem gO.of {e : El} (h : gO e) : (dL.of e).l = e := by obtain ⟨x, rfl, _⟩ := h.st; rfl
theorem gO.p {x : dL} (h : gO x.l) : (x.a0.size ≤ maxLen) ∧ (x.a2.size ≤ maxLen) ∧ (x.a3.length ≤ maxLen) ∧ (∀ e ∈ x.a3, cS e) ∧ (x.a4.length ≤ maxLen) ∧ (∀ e ∈ x.a4, jS e) := by
  obtain ⟨s0, i1, s2, e3, e4⟩ := x
  have h1 : gO [.str s0, .int .i64 i1, .str s2, .sl fP e3, .sl fP e4] := h
  cases h1 with
  | mk _ _ _ _ _ h0 h2 h3 q3 h4 q4 => exact ⟨h0, h2, h3, q3, h4, q4⟩
theorem eQ.st {e : El} (h : eQ e) : ∃ x : pF, e = x.l ∧ eQ x.l := by
  cases h with
  | mk s0 e1 h0 h1 q1 => exact ⟨⟨s0, e1⟩, rfl, .mk s0 e1 h0 h1 q1⟩
theorem eQ.of {e : El} (h : eQ e) : (pF.of e).l = e := by obtain ⟨x, rfl, _⟩ := h.st; rfl
theorem eQ.p {x : pF} (h : eQ x.l) : (x.a0.size ≤ maxLen) ∧ (x.a1.length ≤ maxLen) ∧ (∀ e ∈ x.a1, gO e) := by
  obtain ⟨s0, e1⟩ := x
  have h1 : eQ [.str s0, .sl fP e1] := h
  cases h1 with
  | mk _ _ h0 h1 q1 => exact ⟨h0, h1, q1⟩
theorem dB.st {e : El} (h : dB e) : ∃ x : bV, e = x.l ∧ dB x.l := by
  cases h with
  | mk s0 s1 s2 s3 b4 i5 s6 e7 e8 e9 h0 h1 h2 h3 h6 h7 q7 h8 q8 h9 q9 => exact ⟨⟨s0, s1, s2, s3, b4, i5, s6, e7, e8, e9⟩, rfl, .mk s0 s1 s2 s3 b4 i5 s6 e7 e8 e9 h0 h1 h2 h3 h6 h7 q7 h8 q8 h9 q9⟩
theorem dB.of {e : El} (h : dB e) : (bV.of e).l = e := by obtain ⟨x, rfl, _⟩ := h.st; rfl
theorem dB.p {x : bV} (h : dB x.l) : (x.a0.size ≤ maxLen) ∧ (x.a1.size ≤ maxLen) ∧ (x.a2.size ≤ maxLen) ∧ (x.a3.size ≤ maxLen) ∧ (x.a6.size ≤ maxLen) ∧ (x.a7.length ≤ maxLen) ∧ (∀ e ∈ x.a7, cS e) ∧ (x.a8.length ≤ maxLen) ∧ (∀ e ∈ x.a8, jS e) ∧ (x.a9.length ≤ maxLen) ∧ (∀ e ∈ x.a9, eQ e) := by
  obtain ⟨s0, s1, s2, s3, b4, i5, s6, e7, e8, e9⟩ := x
  have h1 : dB [.str s0, .str s1, .str s2, .str s3, .bool b4, .int .i64 i5, .str s6, .sl fP e7, .sl fP e8, .sl fP e9] := h
  cases h1 with
  | mk _ _ _ _ _ _ _ _ _ _ h0 h1 h2 h3 h6 h7 q7 h8 q8 h9 q9 => exact ⟨h0, h1, h2, h3, h6, h7, q7, h8, q8, h9, q9⟩
theorem cC.st {e : El} (h : cC e) : ∃ x : bS, e = x.l ∧ cC x.l := by
  cases h with
  | mk s0 s1 e2 s3 s4 e5 h0 h1 h2 q2 h3 h4 h5 q5 => exact ⟨⟨s0, s1, e2, s3, s4, e5⟩, rfl, .mk s0 s1 e2 s3 s4 e5 h0 h1 h2 q2 h3 h4 h5 q5⟩
theorem cC.of {e : El} (h : cC e) : (bS.of e).l = e := by obtain ⟨x, rfl, _⟩ := h.st; rfl
theorem cC.p {x : bS} (h : cC x.l) : (x.a0.size ≤ maxLen) ∧ (x.a1.size ≤ maxLen) ∧ (x.a2.length ≤ maxLen) ∧ (∀ e ∈ x.a2, dB e) ∧ (x.a3.size ≤ maxLen) ∧ (x.a4.size ≤ maxLen) ∧ (x.a5.length ≤ maxLen) ∧ (∀ e ∈ x.a5, eQ e) := by
  obtain ⟨s0, s1, e2, s3, s4, e5⟩ := x
  have h1 : cC [.str s0, .str s1, .sl fP e2, .str s3, .str s4, .sl fP e5] := h
  cases h1 with
  | mk _ _ _ _ _ _ h0 h1 h2 q2 h3 h4 h5 q5 => exact ⟨h0, h1, h2, q2, h3, h4, h5, q5⟩
theorem cX.st {e : El} (h : cX e) : ∃ x : lX, e = x.l ∧ cX x.l := by
  cases h with
  | mk s0 s1 e2 h0 h1 h2 q2 => exact ⟨⟨s0, s1, e2⟩, rfl, .mk s0 s1 e2 h0 h1 h2 q2⟩
theorem cX.of {e : El} (h : cX e) : (lX.of e).l = e := by obtain ⟨x, rfl, _⟩ := h.st; rfl
theorem cX.p {x : lX} (h : cX x.l) : (x.a0.size ≤ maxLen) ∧ (x.a1.size ≤ maxLen) ∧ (x.a2.length ≤ maxLen) ∧ (∀ e ∈ x.a2, eQ e) := by
  obtain ⟨s0, s1, e2⟩ := x
  have h1 : cX [.str s0, .str s1, .sl fP e2] := h
  cases h1 with
  | mk _ _ _ h0 h1 h2 q2 => exact ⟨h0, h1, h2, q2⟩
theorem eV.st {e : El} (h : eV e) : ∃ x : vO, e = x.l ∧ eV x.l := by
  cases h with
  | mk i0 s1 h1 => exact ⟨⟨i0, s1⟩, rfl, .mk i0 s1 h1⟩
theorem eV.of {e : El} (h : eV e) : (vO.of e).l = e := by obtain ⟨x, rfl, _⟩ := h.st; rfl
theorem eV.nosl {e : El} (h : eV e) : e.all aSK = true := by obtain ⟨x, rfl, _⟩ := h.st; rfl
theorem eV.p {x : vO} (h : eV x.l) : (x.a1.size ≤ maxLen) := by
  obtain ⟨i0, s1⟩ := x
  have h1 : eV [.int .i64 i0, .str s1] := h
  cases h1 with
  | mk _ _ h1 => exact h1
theorem fC.st {e : El} (h : fC e) : ∃ x : aJ, e = x.l ∧ fC x.l := by
  cases h with
  | mk i0 b1 s2 s3 e4 e5 e6 e7 e8 b9 e10 h2 h3 h4 q4 h5 q5 h6 q6 h7 q7 h8 q8 h10 q10 => exact ⟨⟨i0, b1, s2, s3, e4, e5, e6, e7, e8, b9, e10⟩, rfl, .mk i0 b1 s2 s3 e4 e5 e6 e7 e8 b9 e10 h2 h3 h4 q4 h5 q5 h6 q6 h7 q7 h8 q8 h10 q10⟩
theorem fC.of {e : El} (h : fC e) : (aJ.of e).l = e := by obtain ⟨x, rfl, _⟩ := h.st; rfl
theorem fC.p {x : aJ} (h : fC x.l) : (x.a2.size ≤ maxLen) ∧ (x.a3.size ≤ maxLen) ∧ (x.a4.length ≤ maxLen) ∧ (∀ e ∈ x.a4, jS e) ∧ (x.a5.length ≤ maxLen) ∧ (∀ e ∈ x.a5, cC e) ∧ (x.a6.length ≤ maxLen) ∧ (∀ e ∈ x.a6, dB e) ∧ (x.a7.length ≤ maxLen) ∧ (∀ e ∈ x.a7, cX e) ∧ (x.a8.length ≤ maxLen) ∧ (∀ e ∈ x.a8, eV e) ∧ (x.a10.length ≤ maxLen) ∧ (∀ e ∈ x.a10, eQ e) := by
  obtain ⟨i0, b1, s2, s3, e4, e5, e6, e7, e8, b9, e10⟩ := x
  have h1 : fC [.int .i64 i0, .bool b1, .str s2, .str s3, .sl fP e4, .sl fP e5, .sl fP e6, .sl fP e7, .sl fP e8, .bool b9, .sl fP e10] := h
  cases h1 with
  | mk _ _ _ _ _ _ _ _ _ _ _ h2 h3 h4 q4 h5 q5 h6 q6 h7 q7 h8 q8 h10 q10 => exact ⟨h2, h3, h4, q4, h5, q5, h6, q6, h7, q7, h8, q8, h10, q10⟩
theorem bM.st {e : El} (h : bM e) : ∃ x : bU, e = x.l ∧ bM x.l := by
  cases h with
  | mk e0 e1 e2 h0 q0 h1 q1 h2 q2 => exact ⟨⟨e0, e1, e2⟩, rfl, .mk e0 e1 e2 h0 q0 h1 q1 h2 q2⟩
theorem bM.of {e : El} (h : bM e) : (bU.of e).l = e := by obtain ⟨x, rfl, _⟩ := h.st; rfl
theorem bM.p {x : bU} (h : bM x.l) : (x.a0.length ≤ maxLen) ∧ (∀ e ∈ x.a0, fC e) ∧ (x.a1.length ≤ maxLen) ∧ (∀ e ∈ x.a1, fC e) ∧ (x.a2.length ≤ maxLen) ∧ (∀ e ∈ x.a2, eV e) := by
  obtain ⟨e0, e1, e2⟩ := x
  have h1 : bM [.sl fP e0, .sl fP e1, .sl fP e2] := h
  cases h1 with
  | mk _ _ _ h0 q0 h1 q1 h2 q2 => exact ⟨h0, q0, h1, q1, h2, q2⟩
theorem eC.st {e : El} (h : eC e) : ∃ x : bC, e = x.l ∧ eC x.l := by
  cases h with
  | mk i0 s1 s2 s3 e4 e5 e6 h1 h2 h3 h4 q4 h5 q5 h6 q6 => exact ⟨⟨i0, s1, s2, s3, e4, e5, e6⟩, rfl, .mk i0 s1 s2 s3 e4 e5 e6 h1 h2 h3 h4 q4 h5 q5 h6 q6⟩
theorem eC.of {e : El} (h : eC e) : (bC.of e).l = e := by obtain ⟨x, rfl, _⟩ := h.st; rfl
theorem eC.p {x : bC} (h : eC x.l) : (x.a1.size ≤ maxLen) ∧ (x.a2.size ≤ maxLen) ∧ (x.a3.size ≤ maxLen) ∧ (x.a4.length ≤ maxLen) ∧ (∀ e ∈ x.a4, gO e) ∧ (x.a5.length ≤ maxLen) ∧ (∀ e ∈ x.a5, eQ e) ∧ (x.a6.length ≤ maxLen) ∧ (∀ e ∈ x.a6, eC e) := by
  obtain ⟨i0, s1, s2, s3, e4, e5, e6⟩ := x
  have h1 : eC [.int .i64 i0, .str s1, .str s2, .str s3, .sl fP e4, .sl fP e5, .sl fP e6] := h
  cases h1 with
  | mk _ _ _ _ _ _ _ h1 h2 h3 h4 q4 h5 q5 h6 q6 => exact ⟨h1, h2, h3, h4, q4, h5, q5, h6, q6⟩
theorem dP.st {e : El} (h : dP e) : ∃ x : nR, e = x.l ∧ dP x.l := by
  cases h with
  | mk i0 s1 s2 => exact ⟨⟨i0, s1, s2⟩, rfl, .mk i0 s1 s2⟩
theorem dP.of {e : El} (h : dP e) : (nR.of e).l = e := by obtain ⟨x, rfl, _⟩ := h.st; rfl
theorem dP.nosl {e : El} (h : dP e) : e.all aSK = true := by obtain ⟨x, rfl, _⟩ := h.st; rfl
end Go.Vs
end
section
open Go Go.Vs Go.Proofs
set_option linter.unusedVariables false
set_option linter.unusedSimpArgs false
namespace Go.Vs
theorem aGd {es : List (List (aC false))} (hl : es.length ≤ maxLen) (hq : ∀ e ∈ es, jS e) : ∀ i : Nat, i ≤ es.length → ∀ n : Int, 0 ≤ n →
    iN Dn (qT es n i) = some (aI (szE (es.drop i) n), []) := by
  refine cF ?_ ?_
  · intro n hn; rw [zA]; simp [szE]
  · intro i hi ih n hn
    obtain ⟨s, he, hs⟩ := hq _ (List.getElem_mem hi)
    rw [zA, gS hi]
    simp only [Int.ofNat_lt, hi, decide_true, aE, Int.natCast_nonneg, Bool.and_true, Int.toNat_natCast, aG, aV (Nat.lt_of_lt_of_le hi hl), aN (fun e he => (hq e he).len), bI hi]
    rw [he]
    simp only [cJ, bJ]
    exact aTm fun hk => ih _ hk
theorem aB1 {es : List (List (aC false))} (hl : es.length ≤ maxLen) (hq : ∀ e ∈ es, jS e) {n : Int} (hn : 0 ≤ n) :
    Dn F.aXy [vsl es, aI n] [] = some (aI (szF (.sl fP es) n), []) := by
  refine aP ?_
  rw [aHh]
  refine aBq fun hk => ?_
  have := aGd hl hq 0 (Nat.zero_le _) _ hk
  simpa using this
theorem aGE {ls : List (aC false)} (h : nD ls) : ∀ {n : Int}, 0 ≤ n → Dn F.aYP [.agg ls, aI n] [] = some (aI (szL ls n), []) := by
  cases h with
  | mk s0 s1 h0 h1 =>
    intro n hn
    refine aP ?_
    rw [aLC]
    refine qK fun hn => ?_
    refine qK fun hn => ?_
    rfl
theorem aHu {es : List (List (aC false))} (hl : es.length ≤ maxLen) (hq : ∀ e ∈ es, cS e) (hd : ∀ e ∈ es, ∀ n : Int, 0 ≤ n → Dn F.aYb [.agg e, aI n] [] = some (aI (szL e n), [])) : ∀ i : Nat, i ≤ es.length → ∀ n : Int, 0 ≤ n →
    jA Dn (rZ es n i) = some (aI (szE (es.drop i) n), []) := by
  refine cF ?_ ?_
  · intro n hn; rw [aAs]; simp [szE]
  · intro i hi ih n hn
    have hci := hd _ (List.getElem_mem hi) n hn
    obtain ⟨i0, s1, e2, e3, he, h1, h2, q2, h3, q3⟩ := (hq _ (List.getElem_mem hi)).ex
    rw [aAs, gS hi]
    simp only [Int.ofNat_lt, hi, decide_true, aE, Int.natCast_nonneg, Bool.and_true, Int.toNat_natCast, aG, aV (Nat.lt_of_lt_of_le hi hl), aN (fun e he => (hq e he).len), bI hi]
    rw [he] at hci ⊢
    simp only [dV, cJ, cN, cB, bJ, cK, dZ]
    exact zR hci fun k hk => ih k hk
theorem aHD {es : List (List (aC false))} (hl : es.length ≤ maxLen) (hq : ∀ e ∈ es, cS e) (hd : ∀ e ∈ es, ∀ n : Int, 0 ≤ n → Dn F.aYb [.agg e, aI n] [] = some (aI (szL e n), [])) {n : Int} (hn : 0 ≤ n) :
    Dn F.aX4 [vsl es, aI n] [] = some (aI (szF (.sl fP es) n), []) := by
  refine aP ?_
  rw [aIr]
  refine aBq fun hk => ?_
  have := aHu hl hq hd 0 (Nat.zero_le _) _ hk
  simpa using this
theorem aFy {ls : List (aC false)} (h : cS ls) : ∀ {n : Int}, 0 ≤ n → Dn F.aYb [.agg ls, aI n] [] = some (aI (szL ls n), []) := by
  induction h with
  | mk i0 s1 e2 e3 h1 h2 q2 h3 q3 ih2 =>
    intro n hn
    refine aP ?_
    rw [aKk]
    refine aPj hn ?_
    refine qK fun hn => ?_
    refine iV (aHD h2 q2 (fun e he n hn => ih2 e he hn) hn) fun k hn => ?_
    refine iV (aB1 h3 q3 hn) fun k hn => ?_
    rfl
theorem aJM {es : List (List (aC false))} (hl : es.length ≤ maxLen) (hq : ∀ e ∈ es, gO e) (hd : ∀ e ∈ es, ∀ n : Int, 0 ≤ n → Dn F.aZn [.agg e, aI n] [] = some (aI (szL e n), [])) : ∀ i : Nat, i ≤ es.length → ∀ n : Int, 0 ≤ n →
    lC Dn (wY es n i) = some (aI (szE (es.drop i) n), []) := by
  refine cF ?_ ?_
  · intro n hn; rw [aCv]; simp [szE]
  · intro i hi ih n hn
    have hci := hd _ (List.getElem_mem hi) n hn
    obtain ⟨s0, i1, s2, e3, e4, he, h0, h2, h3, q3, h4, q4⟩ := (hq _ (List.getElem_mem hi)).ex
    rw [aCv, gS hi]
    simp only [Int.ofNat_lt, hi, decide_true, aE, Int.natCast_nonneg, Bool.and_true, Int.toNat_natCast, aG, aV (Nat.lt_of_lt_of_le hi hl), aN (fun e he => (hq e he).len), bI hi]
    rw [he] at hci ⊢
    simp only [dV, cJ, cN, cB, bJ, cK, dZ]
    exact zR hci fun k hk => ih k hk
theorem aJ2 {es : List (List (aC false))} (hl : es.length ≤ maxLen) (hq : ∀ e ∈ es, gO e) (hd : ∀ e ∈ es, ∀ n : Int, 0 ≤ n → Dn F.aZn [.agg e, aI n] [] = some (aI (szL e n), [])) {n : Int} (hn : 0 ≤ n) :
    Dn F.aYT [vsl es, aI n] [] = some (aI (szF (.sl fP es) n), []) := by
  refine aP ?_
  rw [aLu]
  refine aBq fun hk => ?_
  have := aJM hl hq hd 0 (Nat.zero_le _) _ hk
  simpa using this
theorem aOp {ls : List (aC false)} (h : gO ls) : ∀ {n : Int}, 0 ≤ n → Dn F.aZn [.agg ls, aI n] [] = some (aI (szL ls n), []) := by
  cases h with
  | mk s0 i1 s2 e3 e4 h0 h2 h3 q3 h4 q4 =>
    intro n hn
    refine aP ?_
    rw [aMl]
    refine qK fun hn => ?_
    refine aLQ (a := [.int .i64 i1, .str s2, .sl fP e3, .sl fP e4]) (aFy (.mk i1 s2 e3 e4 h2 h3 q3 h4 q4) hn) hn fun k hn => ?_
    rfl
theorem aGG {es : List (List (aC false))} (hl : es.length ≤ maxLen) (hq : ∀ e ∈ es, gO e) {n : Int} (hn : 0 ≤ n) : Dn F.aYT [vsl es, aI n] [] = some (aI (szF (.sl fP es) n), []) := aJ2 hl hq (fun e he n hn => aOp (hq e he) hn) hn
theorem aJv {es : List (List (aC false))} (hl : es.length ≤ maxLen) (hq : ∀ e ∈ es, eQ e) (hd : ∀ e ∈ es, ∀ n : Int, 0 ≤ n → Dn F.aY3 [.agg e, aI n] [] = some (aI (szL e n), [])) : ∀ i : Nat, i ≤ es.length → ∀ n : Int, 0 ≤ n →
    lF Dn (xD es n i) = some (aI (szE (es.drop i) n), []) := by
  refine cF ?_ ?_
  · intro n hn; rw [aB4]; simp [szE]
  · intro i hi ih n hn
    have hci := hd _ (List.getElem_mem hi) n hn
    obtain ⟨s0, e1, he, h0, h1, q1⟩ := (hq _ (List.getElem_mem hi)).ex
    rw [aB4, gS hi]
    simp only [Int.ofNat_lt, hi, decide_true, aE, Int.natCast_nonneg, Bool.and_true, Int.toNat_natCast, aG, aV (Nat.lt_of_lt_of_le hi hl), aN (fun e he => (hq e he).len), bI hi]
    rw [he] at hci ⊢
    simp only [dV, cJ, cN, cB, bJ, cK, dZ]
    exact zR hci fun k hk => ih k hk
theorem aJk {es : List (List (aC false))} (hl : es.length ≤ maxLen) (hq : ∀ e ∈ es, eQ e) (hd : ∀ e ∈ es, ∀ n : Int, 0 ≤ n → Dn F.aY3 [.agg e, aI n] [] = some (aI (szL e n), [])) {n : Int} (hn : 0 ≤ n) :
    Dn F.aYx [vsl es, aI n] [] = some (aI (szF (.sl fP es) n), []) := by
  refine aP ?_
  rw [aLt]
  refine aBq fun hk => ?_
  have := aJv hl hq hd 0 (Nat.zero_le _) _ hk
  simpa using this
theorem aOR {ls : List (aC false)} (h : eQ ls) : ∀ {n : Int}, 0 ≤ n → Dn F.aY3 [.agg ls, aI n] [] = some (aI (szL ls n), []) := by
  cases h with
  | mk s0 e1 h0 h1 q1 =>
    intro n hn
    refine aP ?_
    rw [aL9]
    refine qK fun hn => ?_
    refine iV (aGG h1 q1 hn) fun k hn => ?_
    rfl
theorem rJ {es : List (List (aC false))} (hl : es.length ≤ maxLen) (hq : ∀ e ∈ es, eQ e) {n : Int} (hn : 0 ≤ n) : Dn F.aYx [vsl es, aI n] [] = some (aI (szF (.sl fP es) n), []) := aJk hl hq (fun e he n hn => aOR (hq e he) hn) hn
theorem aHN {es : List (List (aC false))} (hl : es.length ≤ maxLen) (hq : ∀ e ∈ es, dB e) (hd : ∀ e ∈ es, ∀ n : Int, 0 ≤ n → Dn F.aYs [.agg e, aI n] [] = some (aI (szL e n), [])) : ∀ i : Nat, i ≤ es.length → ∀ n : Int, 0 ≤ n →
    jH Dn (sJ es n i) = some (aI (szE (es.drop i) n), []) := by
  refine cF ?_ ?_
  · intro n hn; rw [aAD]; simp [szE]
  · intro i hi ih n hn
    have hci := hd _ (List.getElem_mem hi) n hn
    obtain ⟨s0, s1, s2, s3, b4, i5, s6, e7, e8, e9, he, h0, h1, h2, h3, h6, h7, q7, h8, q8, h9, q9⟩ := (hq _ (List.getElem_mem hi)).ex
    rw [aAD, gS hi]
    simp only [Int.ofNat_lt, hi, decide_true, aE, Int.natCast_nonneg, Bool.and_true, Int.toNat_natCast, aG, aV (Nat.lt_of_lt_of_le hi hl), aN (fun e he => (hq e he).len), bI hi]
    rw [he] at hci ⊢
    simp only [dV, cJ, cN, cB, bJ, cK, dZ]
    exact zR hci fun k hk => ih k hk
theorem aHt {es : List (List (aC false))} (hl : es.length ≤ maxLen) (hq : ∀ e ∈ es, dB e) (hd : ∀ e ∈ es, ∀ n : Int, 0 ≤ n → Dn F.aYs [.agg e, aI n] [] = some (aI (szL e n), [])) {n : Int} (hn : 0 ≤ n) :
    Dn F.aXN [vsl es, aI n] [] = some (aI (szF (.sl fP es) n), []) := by
  refine aP ?_
  rw [aIc]
  refine aBq fun hk => ?_
  have := aHN hl hq hd 0 (Nat.zero_le _) _ hk
  simpa using this
theorem aLV {ls : List (aC false)} (h : dB ls) : ∀ {n : Int}, 0 ≤ n → Dn F.aYs [.agg ls, aI n] [] = some (aI (szL ls n), []) := by
  cases h with
  | mk s0 s1 s2 s3 b4 i5 s6 e7 e8 e9 h0 h1 h2 h3 h6 h7 q7 h8 q8 h9 q9 =>
    intro n hn
    refine aP ?_
    rw [aJ6]
    refine qK fun hn => ?_
    refine qK fun hn => ?_
    refine aLQ (a := [.str s2, .str s3]) (aGE (.mk s2 s3 h2 h3) hn) hn fun k hn => ?_
    refine aO7 hn ?_
    refine aLQ (a := [.int .i64 i5, .str s6, .sl fP e7, .sl fP e8]) (aFy (.mk i5 s6 e7 e8 h6 h7 q7 h8 q8) hn) hn fun k hn => ?_
    refine iV (rJ h9 q9 hn) fun k hn => ?_
    rfl
theorem aDs {es : List (List (aC false))} (hl : es.length ≤ maxLen) (hq : ∀ e ∈ es, dB e) {n : Int} (hn : 0 ≤ n) : Dn F.aXN [vsl es, aI n] [] = some (aI (szF (.sl fP es) n), []) := aHt hl hq (fun e he n hn => aLV (hq e he) hn) hn
theorem aDN {es : List (List (aC false))} (hl : es.length ≤ maxLen) (hq : ∀ e ∈ es, cC e) (hd : ∀ e ∈ es, ∀ n : Int, 0 ≤ n → Dn F.aXe [.agg e, aI n] [] = some (aI (szL e n), [])) : ∀ i : Nat, i ≤ es.length → ∀ n : Int, 0 ≤ n →
    gG Dn (oO es n i) = some (aI (szE (es.drop i) n), []) := by
  refine cF ?_ ?_
  · intro n hn; rw [vU]; simp [szE]
  · intro i hi ih n hn
    have hci := hd _ (List.getElem_mem hi) n hn
    obtain ⟨s0, s1, e2, s3, s4, e5, he, h0, h1, h2, q2, h3, h4, h5, q5⟩ := (hq _ (List.getElem_mem hi)).ex
    rw [vU, gS hi]
    simp only [Int.ofNat_lt, hi, decide_true, aE, Int.natCast_nonneg, Bool.and_true, Int.toNat_natCast, aG, aV (Nat.lt_of_lt_of_le hi hl), aN (fun e he => (hq e he).len), bI hi]
    rw [he] at hci ⊢
    simp only [dV, cJ, cN, cB, bJ, cK, dZ]
    exact zR hci fun k hk => ih k hk
theorem aD5 {es : List (List (aC false))} (hl : es.length ≤ maxLen) (hq : ∀ e ∈ es, cC e) (hd : ∀ e ∈ es, ∀ n : Int, 0 ≤ n → Dn F.aXe [.agg e, aI n] [] = some (aI (szL e n), [])) {n : Int} (hn : 0 ≤ n) :
    Dn F.aW6 [vsl es, aI n] [] = some (aI (szF (.sl fP es) n), []) := by
  refine aP ?_
  rw [aFq]
  refine aBq fun hk => ?_
  have := aDN hl hq hd 0 (Nat.zero_le _) _ hk
  simpa using this
theorem aI9 {ls : List (aC false)} (h : cC ls) : ∀ {n : Int}, 0 ≤ n → Dn F.aXe [.agg ls, aI n] [] = some (aI (szL ls n), []) := by
  cases h with
  | mk s0 s1 e2 s3 s4 e5 h0 h1 h2 q2 h3 h4 h5 q5 =>
    intro n hn
    refine aP ?_
    rw [aF7]
    refine qK fun hn => ?_
    refine qK fun hn => ?_
    refine iV (aDs h2 q2 hn) fun k hn => ?_
    refine aLQ (a := [.str s3, .str s4]) (aGE (.mk s3 s4 h3 h4) hn) hn fun k hn => ?_
    refine iV (rJ h5 q5 hn) fun k hn => ?_
    rfl
theorem aHn {es : List (List (aC false))} (hl : es.length ≤ maxLen) (hq : ∀ e ∈ es, cC e) {n : Int} (hn : 0 ≤ n) : Dn F.aW6 [vsl es, aI n] [] = some (aI (szF (.sl fP es) n), []) := aD5 hl hq (fun e he n hn => aI9 (hq e he) hn) hn
theorem aEP {es : List (List (aC false))} (hl : es.length ≤ maxLen) (hq : ∀ e ∈ es, cX e) (hd : ∀ e ∈ es, ∀ n : Int, 0 ≤ n → Dn F.aXA [.agg e, aI n] [] = some (aI (szL e n), [])) : ∀ i : Nat, i ≤ es.length → ∀ n : Int, 0 ≤ n →
    gT Dn (pW es n i) = some (aI (szE (es.drop i) n), []) := by
  refine cF ?_ ?_
  · intro n hn; rw [xX]; simp [szE]
  · intro i hi ih n hn
    have hci := hd _ (List.getElem_mem hi) n hn
    obtain ⟨s0, s1, e2, he, h0, h1, h2, q2⟩ := (hq _ (List.getElem_mem hi)).ex
    rw [xX, gS hi]
    simp only [Int.ofNat_lt, hi, decide_true, aE, Int.natCast_nonneg, Bool.and_true, Int.toNat_natCast, aG, aV (Nat.lt_of_lt_of_le hi hl), aN (fun e he => (hq e he).len), bI hi]
    rw [he] at hci ⊢
    simp only [dV, cJ, cN, cB, bJ, cK, dZ]
    exact zR hci fun k hk => ih k hk
theorem aE7 {es : List (List (aC false))} (hl : es.length ≤ maxLen) (hq : ∀ e ∈ es, cX e) (hd : ∀ e ∈ es, ∀ n : Int, 0 ≤ n → Dn F.aXA [.agg e, aI n] [] = some (aI (szL e n), [])) {n : Int} (hn : 0 ≤ n) :
    Dn F.aXh [vsl es, aI n] [] = some (aI (szF (.sl fP es) n), []) := by
  refine aP ?_
  rw [aGp]
  refine aBq fun hk => ?_
  have := aEP hl hq hd 0 (Nat.zero_le _) _ hk
  simpa using this
theorem aKw {ls : List (aC false)} (h : cX ls) : ∀ {n : Int}, 0 ≤ n → Dn F.aXA [.agg ls, aI n] [] = some (aI (szL ls n), []) := by
  cases h with
  | mk s0 s1 e2 h0 h1 h2 q2 =>
    intro n hn
    refine aP ?_
    rw [aHv]
    refine qK fun hn => ?_
    refine qK fun hn => ?_
    refine iV (rJ h2 q2 hn) fun k hn => ?_
    rfl
theorem aIa {es : List (List (aC false))} (hl : es.length ≤ maxLen) (hq : ∀ e ∈ es, cX e) {n : Int} (hn : 0 ≤ n) : Dn F.aXh [vsl es, aI n] [] = some (aI (szF (.sl fP es) n), []) := aE7 hl hq (fun e he n hn => aKw (hq e he) hn) hn
theorem aH5 {es : List (List (aC false))} (hl : es.length ≤ maxLen) (hq : ∀ e ∈ es, eV e) (hd : ∀ e ∈ es, ∀ n : Int, 0 ≤ n → Dn F.aYK [.agg e, aI n] [] = some (aI (szL e n), [])) : ∀ i : Nat, i ≤ es.length → ∀ n : Int, 0 ≤ n →
    jY Dn (vF es n i) = some (aI (szE (es.drop i) n), []) := by
  refine cF ?_ ?_
  · intro n hn; rw [aBc]; simp [szE]
  · intro i hi ih n hn
    have hci := hd _ (List.getElem_mem hi) n hn
    obtain ⟨i0, s1, he, h1⟩ := (hq _ (List.getElem_mem hi)).ex
    rw [aBc, gS hi]
    simp only [Int.ofNat_lt, hi, decide_true, aE, Int.natCast_nonneg, Bool.and_true, Int.toNat_natCast, aG, aV (Nat.lt_of_lt_of_le hi hl), aN (fun e he => (hq e he).len), bI hi]
    rw [he] at hci ⊢
    simp only [dV, cJ, cN, cB, bJ, cK, dZ]
    exact zR hci fun k hk => ih k hk
theorem aIi {es : List (List (aC false))} (hl : es.length ≤ maxLen) (hq : ∀ e ∈ es, eV e) (hd : ∀ e ∈ es, ∀ n : Int, 0 ≤ n → Dn F.aYK [.agg e, aI n] [] = some (aI (szL e n), [])) {n : Int} (hn : 0 ≤ n) :
    Dn F.aYa [vsl es, aI n] [] = some (aI (szF (.sl fP es) n), []) := by
  refine aP ?_
  rw [aKh]
  refine aBq fun hk => ?_
  have := aH5 hl hq hd 0 (Nat.zero_le _) _ hk
  simpa using this
theorem aND {ls : List (aC false)} (h : eV ls) : ∀ {n : Int}, 0 ≤ n → Dn F.aYK [.agg ls, aI n] [] = some (aI (szL ls n), []) := by
  cases h with
  | mk i0 s1 h1 =>
    intro n hn
    refine aP ?_
    rw [aLF]
    refine aPj hn ?_
    refine qK fun hn => ?_
    rfl
theorem aEH {es : List (List (aC false))} (hl : es.length ≤ maxLen) (hq : ∀ e ∈ es, eV e) {n : Int} (hn : 0 ≤ n) : Dn F.aYa [vsl es, aI n] [] = some (aI (szF (.sl fP es) n), []) := aIi hl hq (fun e he n hn => aND (hq e he) hn) hn
theorem aJ0 {es : List (List (aC false))} (hl : es.length ≤ maxLen) (hq : ∀ e ∈ es, fC e) (hd : ∀ e ∈ es, ∀ n : Int, 0 ≤ n → Dn F.aZg [.agg e, aI n] [] = some (aI (szL e n), [])) : ∀ i : Nat, i ≤ es.length → ∀ n : Int, 0 ≤ n →
    lD Dn (xB es n i) = some (aI (szE (es.drop i) n), []) := by
  refine cF ?_ ?_
  · intro n hn; rw [aCb]; simp [szE]
  · intro i hi ih n hn
    have hci := hd _ (List.getElem_mem hi) n hn
    obtain ⟨i0, b1, s2, s3, e4, e5, e6, e7, e8, b9, e10, he, h2, h3, h4, q4, h5, q5, h6, q6, h7, q7, h8, q8, h10, q10⟩ := (hq _ (List.getElem_mem hi)).ex
    rw [aCb, gS hi]
    simp only [Int.ofNat_lt, hi, decide_true, aE, Int.natCast_nonneg, Bool.and_true, Int.toNat_natCast, aG, aV (Nat.lt_of_lt_of_le hi hl), aN (fun e he => (hq e he).len), bI hi]
    rw [he] at hci ⊢
    simp only [dV, cJ, cN, cB, bJ, cK, dZ]
    exact zR hci fun k hk => ih k hk
theorem aKz {es : List (List (aC false))} (hl : es.length ≤ maxLen) (hq : ∀ e ∈ es, fC e) (hd : ∀ e ∈ es, ∀ n : Int, 0 ≤ n → Dn F.aZg [.agg e, aI n] [] = some (aI (szL e n), [])) {n : Int} (hn : 0 ≤ n) :
    Dn F.aYU [vsl es, aI n] [] = some (aI (szF (.sl fP es) n), []) := by
  refine aP ?_
  rw [aLr]
  refine aBq fun hk => ?_
  have := aJ0 hl hq hd 0 (Nat.zero_le _) _ hk
  simpa using this
theorem aOt {ls : List (aC false)} (h : fC ls) : ∀ {n : Int}, 0 ≤ n → Dn F.aZg [.agg ls, aI n] [] = some (aI (szL ls n), []) := by
  cases h with
  | mk i0 b1 s2 s3 e4 e5 e6 e7 e8 b9 e10 h2 h3 h4 q4 h5 q5 h6 q6 h7 q7 h8 q8 h10 q10 =>
    intro n hn
    refine aP ?_
    rw [aM8]
    refine aPj hn ?_
    refine aO7 hn ?_
    refine qK fun hn => ?_
    refine qK fun hn => ?_
    refine iV (aB1 h4 q4 hn) fun k hn => ?_
    refine iV (aHn h5 q5 hn) fun k hn => ?_
    refine iV (aDs h6 q6 hn) fun k hn => ?_
    refine iV (aIa h7 q7 hn) fun k hn => ?_
    refine iV (aEH h8 q8 hn) fun k hn => ?_
    refine aO7 hn ?_
    refine iV (rJ h10 q10 hn) fun k hn => ?_
    rfl
theorem aGD {es : List (List (aC false))} (hl : es.length ≤ maxLen) (hq : ∀ e ∈ es, fC e) {n : Int} (hn : 0 ≤ n) : Dn F.aYU [vsl es, aI n] [] = some (aI (szF (.sl fP es) n), []) := aKz hl hq (fun e he n hn => aOt (hq e he) hn) hn
theorem aLd {ls : List (aC false)} (h : bM ls) : ∀ {n : Int}, 0 ≤ n → Dn F.aXW [.agg ls, aI n] [] = some (aI (szL ls n), []) := by
  cases h with
  | mk e0 e1 e2 h0 q0 h1 q1 h2 q2 =>
    intro n hn
    refine aP ?_
    rw [aIl]
    refine iV (aGD h0 q0 hn) fun k hn => ?_
    refine iV (aGD h1 q1 hn) fun k hn => ?_
    refine iV (aEH h2 q2 hn) fun k hn => ?_
    rfl
theorem aJx {es : List (List (aC false))} (hl : es.length ≤ maxLen) (hq : ∀ e ∈ es, eC e) (hd : ∀ e ∈ es, ∀ n : Int, 0 ≤ n → Dn F.aY6 [.agg e, aI n] [] = some (aI (szL e n), [])) : ∀ i : Nat, i ≤ es.length → ∀ n : Int, 0 ≤ n →
    lH Dn (xL es n i) = some (aI (szE (es.drop i) n), []) := by
  refine cF ?_ ?_
  · intro n hn; rw [aBV]; simp [szE]
  · intro i hi ih n hn
    have hci := hd _ (List.getElem_mem hi) n hn
    obtain ⟨i0, s1, s2, s3, e4, e5, e6, he, h1, h2, h3, h4, q4, h5, q5, h6, q6⟩ := (hq _ (List.getElem_mem hi)).ex
    rw [aBV, gS hi]
    simp only [Int.ofNat_lt, hi, decide_true, aE, Int.natCast_nonneg, Bool.and_true, Int.toNat_natCast, aG, aV (Nat.lt_of_lt_of_le hi hl), aN (fun e he => (hq e he).len), bI hi]
    rw [he] at hci ⊢
    simp only [dV, cJ, cN, cB, bJ, cK, dZ]
    exact zR hci fun k hk => ih k hk
theorem aBL {es : List (List (aC false))} (hl : es.length ≤ maxLen) (hq : ∀ e ∈ es, eC e) (hd : ∀ e ∈ es, ∀ n : Int, 0 ≤ n → Dn F.aY6 [.agg e, aI n] [] = some (aI (szL e n), [])) {n : Int} (hn : 0 ≤ n) :
    Dn F.aYF [vsl es, aI n] [] = some (aI (szF (.sl fP es) n), []) := by
  refine aP ?_
  rw [aLh]
  refine aBq fun hk => ?_
  have := aJx hl hq hd 0 (Nat.zero_le _) _ hk
  simpa using this
theorem aO0 {ls : List (aC false)} (h : eC ls) : ∀ {n : Int}, 0 ≤ n → Dn F.aY6 [.agg ls, aI n] [] = some (aI (szL ls n), []) := by
  induction h with
  | mk i0 s1 s2 s3 e4 e5 e6 h1 h2 h3 h4 q4 h5 q5 h6 q6 ih6 =>
    intro n hn
    refine aP ?_
    rw [aL6]
    refine aPj hn ?_
    refine qK fun hn => ?_
    refine qK fun hn => ?_
    refine qK fun hn => ?_
    refine iV (aGG h4 q4 hn) fun k hn => ?_
    refine iV (rJ h5 q5 hn) fun k hn => ?_
    refine iV (aBL h6 q6 (fun e he n hn => ih6 e he hn) hn) fun k hn => ?_
    rfl
theorem aNp {es : List (List (aC false))} (hl : es.length ≤ maxLen) (hq : ∀ e ∈ es, eC e) {n : Int} (hn : 0 ≤ n) : Dn F.aYF [vsl es, aI n] [] = some (aI (szF (.sl fP es) n), []) := aBL hl hq (fun e he n hn => aO0 (hq e he) hn) hn
end Go.Vs
end
section
open Go Go.Vs Go.Proofs
set_option linter.unusedVariables false
set_option linter.unusedSimpArgs false
namespace Go.Vs
theorem aF3 {es : List (List (aC false))} (hl : es.length ≤ maxLen) (hq : ∀ e ∈ es, jS e) : ∀ i : Nat, i ≤ es.length →
    iK Dn (qV es es i) = some (aH true, []) := by
  refine cF ?_ ?_
  · rw [zB]; simp
  · intro i hi ih
    obtain ⟨s, he, hs⟩ := hq _ (List.getElem_mem hi)
    rw [zB]
    simp only [Int.ofNat_lt, hi, decide_true, aE, Int.natCast_nonneg, Bool.and_true, Int.toNat_natCast, aG, aV (Nat.lt_of_lt_of_le hi hl), aN (fun e he => (hq e he).len), bI hi]
    rw [he]
    simp only [cJ, bJ, beq_self_eq_true, Bool.not_true, aD]
    exact ih
theorem aCe {es : List (List (aC false))} (hl : es.length ≤ maxLen) (hq : ∀ e ∈ es, jS e) : Dn F.aXz [vsl es, vsl es] [] = some (aH true, []) := by
  refine aP ?_
  rw [aHr]
  have := aF3 hl hq 0 (Nat.zero_le _)
  simpa using this
theorem aGK {ls : List (aC false)} (h : nD ls) : Dn F.aYH [.agg ls, .agg ls] [] = some (aH true, []) := by
  cases h with
  | mk s0 s1 h0 h1 =>
    refine aP ?_
    rw [aLs]
    simp []
theorem aHj {es : List (List (aC false))} (hl : es.length ≤ maxLen) (hq : ∀ e ∈ es, cS e) (hd : ∀ e ∈ es, Dn F.aYl [.agg e, .agg e] [] = some (aH true, [])) : ∀ i : Nat, i ≤ es.length →
    jG Dn (sU es es i) = some (aH true, []) := by
  refine cF ?_ ?_
  · rw [aAt]; simp
  · intro i hi ih
    have hci := hd _ (List.getElem_mem hi)
    obtain ⟨i0, s1, e2, e3, he, h1, h2, q2, h3, q3⟩ := (hq _ (List.getElem_mem hi)).ex
    rw [aAt]
    simp only [Int.ofNat_lt, hi, decide_true, aE, Int.natCast_nonneg, Bool.and_true, Int.toNat_natCast, aG, aV (Nat.lt_of_lt_of_le hi hl), aN (fun e he => (hq e he).len), bI hi]
    rw [he] at hci ⊢
    simp only [dV, cJ, cN, cB, bJ, cK, dZ, hci, Option.bind_some, aX, Bool.not_true, aD]
    exact ih
theorem aHS {es : List (List (aC false))} (hl : es.length ≤ maxLen) (hq : ∀ e ∈ es, cS e) (hd : ∀ e ∈ es, Dn F.aYl [.agg e, .agg e] [] = some (aH true, [])) : Dn F.aX8 [vsl es, vsl es] [] = some (aH true, []) := by
  refine aP ?_
  rw [aIU]
  have := aHj hl hq hd 0 (Nat.zero_le _)
  simpa using this
theorem aEx {ls : List (aC false)} (h : cS ls) : Dn F.aYl [.agg ls, .agg ls] [] = some (aH true, []) := by
  induction h with
  | mk i0 s1 e2 e3 h1 h2 q2 h3 q3 ih2 =>
    refine aP ?_
    rw [aJl]
    have c2 := aHS h2 q2 ih2
    have c3 := aCe h3 q3
    simp [c2, c3]
theorem aKs {es : List (List (aC false))} (hl : es.length ≤ maxLen) (hq : ∀ e ∈ es, gO e) (hd : ∀ e ∈ es, Dn F.aY8 [.agg e, .agg e] [] = some (aH true, [])) : ∀ i : Nat, i ≤ es.length →
    lI Dn (wW es es i) = some (aH true, []) := by
  refine cF ?_ ?_
  · rw [aCm]; simp
  · intro i hi ih
    have hci := hd _ (List.getElem_mem hi)
    obtain ⟨s0, i1, s2, e3, e4, he, h0, h2, h3, q3, h4, q4⟩ := (hq _ (List.getElem_mem hi)).ex
    rw [aCm]
    simp only [Int.ofNat_lt, hi, decide_true, aE, Int.natCast_nonneg, Bool.and_true, Int.toNat_natCast, aG, aV (Nat.lt_of_lt_of_le hi hl), aN (fun e he => (hq e he).len), bI hi]
    rw [he] at hci ⊢
    simp only [dV, cJ, cN, cB, bJ, cK, dZ, hci, Option.bind_some, aX, Bool.not_true, aD]
    exact ih
theorem aKx {es : List (List (aC false))} (hl : es.length ≤ maxLen) (hq : ∀ e ∈ es, gO e) (hd : ∀ e ∈ es, Dn F.aY8 [.agg e, .agg e] [] = some (aH true, [])) : Dn F.aYI [vsl es, vsl es] [] = some (aH true, []) := by
  refine aP ?_
  rw [aLm]
  have := aKs hl hq hd 0 (Nat.zero_le _)
  simpa using this
theorem aOG {ls : List (aC false)} (h : gO ls) : Dn F.aY8 [.agg ls, .agg ls] [] = some (aH true, []) := by
  cases h with
  | mk s0 i1 s2 e3 e4 h0 h2 h3 q3 h4 q4 =>
    refine aP ?_
    rw [aMF]
    have c1 := aEx (.mk i1 s2 e3 e4 h2 h3 q3 h4 q4)
    simp [c1]
theorem aGL {es : List (List (aC false))} (hl : es.length ≤ maxLen) (hq : ∀ e ∈ es, gO e) : Dn F.aYI [vsl es, vsl es] [] = some (aH true, []) := aKx hl hq fun e he => aOG (hq e he)
theorem aJU {es : List (List (aC false))} (hl : es.length ≤ maxLen) (hq : ∀ e ∈ es, eQ e) (hd : ∀ e ∈ es, Dn F.aY5 [.agg e, .agg e] [] = some (aH true, [])) : ∀ i : Nat, i ≤ es.length →
    lM Dn (wU es es i) = some (aH true, []) := by
  refine cF ?_ ?_
  · rw [aBU]; simp
  · intro i hi ih
    have hci := hd _ (List.getElem_mem hi)
    obtain ⟨s0, e1, he, h0, h1, q1⟩ := (hq _ (List.getElem_mem hi)).ex
    rw [aBU]
    simp only [Int.ofNat_lt, hi, decide_true, aE, Int.natCast_nonneg, Bool.and_true, Int.toNat_natCast, aG, aV (Nat.lt_of_lt_of_le hi hl), aN (fun e he => (hq e he).len), bI hi]
    rw [he] at hci ⊢
    simp only [dV, cJ, cN, cB, bJ, cK, dZ, hci, Option.bind_some, aX, Bool.not_true, aD]
    exact ih
theorem aKa {es : List (List (aC false))} (hl : es.length ≤ maxLen) (hq : ∀ e ∈ es, eQ e) (hd : ∀ e ∈ es, Dn F.aY5 [.agg e, .agg e] [] = some (aH true, [])) : Dn F.aYO [vsl es, vsl es] [] = some (aH true, []) := by
  refine aP ?_
  rw [aLy]
  have := aJU hl hq hd 0 (Nat.zero_le _)
  simpa using this
theorem aOv {ls : List (aC false)} (h : eQ ls) : Dn F.aY5 [.agg ls, .agg ls] [] = some (aH true, []) := by
  cases h with
  | mk s0 e1 h0 h1 q1 =>
    refine aP ?_
    rw [aM3]
    have c1 := aGL h1 q1
    simp [c1]
theorem rR {es : List (List (aC false))} (hl : es.length ≤ maxLen) (hq : ∀ e ∈ es, eQ e) : Dn F.aYO [vsl es, vsl es] [] = some (aH true, []) := aKa hl hq fun e he => aOv (hq e he)
theorem aG7 {es : List (List (aC false))} (hl : es.length ≤ maxLen) (hq : ∀ e ∈ es, dB e) (hd : ∀ e ∈ es, Dn F.aYm [.agg e, .agg e] [] = some (aH true, [])) : ∀ i : Nat, i ≤ es.length →
    jE Dn (sG es es i) = some (aH true, []) := by
  refine cF ?_ ?_
  · rw [aAS]; simp
  · intro i hi ih
    have hci := hd _ (List.getElem_mem hi)
    obtain ⟨s0, s1, s2, s3, b4, i5, s6, e7, e8, e9, he, h0, h1, h2, h3, h6, h7, q7, h8, q8, h9, q9⟩ := (hq _ (List.getElem_mem hi)).ex
    rw [aAS]
    simp only [Int.ofNat_lt, hi, decide_true, aE, Int.natCast_nonneg, Bool.and_true, Int.toNat_natCast, aG, aV (Nat.lt_of_lt_of_le hi hl), aN (fun e he => (hq e he).len), bI hi]
    rw [he] at hci ⊢
    simp only [dV, cJ, cN, cB, bJ, cK, dZ, hci, Option.bind_some, aX, Bool.not_true, aD]
    exact ih
theorem aH1 {es : List (List (aC false))} (hl : es.length ≤ maxLen) (hq : ∀ e ∈ es, dB e) (hd : ∀ e ∈ es, Dn F.aYm [.agg e, .agg e] [] = some (aH true, [])) : Dn F.aXO [vsl es, vsl es] [] = some (aH true, []) := by
  refine aP ?_
  rw [aIw]
  have := aG7 hl hq hd 0 (Nat.zero_le _)
  simpa using this
theorem aLU {ls : List (aC false)} (h : dB ls) : Dn F.aYm [.agg ls, .agg ls] [] = some (aH true, []) := by
  cases h with
  | mk s0 s1 s2 s3 b4 i5 s6 e7 e8 e9 h0 h1 h2 h3 h6 h7 q7 h8 q8 h9 q9 =>
    refine aP ?_
    rw [aJY]
    have c2 := aGK (.mk s2 s3 h2 h3)
    have c5 := aEx (.mk i5 s6 e7 e8 h6 h7 q7 h8 q8)
    have c9 := rR h9 q9
    simp [c2, c5, c9]
theorem aDy {es : List (List (aC false))} (hl : es.length ≤ maxLen) (hq : ∀ e ∈ es, dB e) : Dn F.aXO [vsl es, vsl es] [] = some (aH true, []) := aH1 hl hq fun e he => aLU (hq e he)
theorem aDW {es : List (List (aC false))} (hl : es.length ≤ maxLen) (hq : ∀ e ∈ es, cC e) (hd : ∀ e ∈ es, Dn F.aXp [.agg e, .agg e] [] = some (aH true, [])) : ∀ i : Nat, i ≤ es.length →
    gE Dn (oI es es i) = some (aH true, []) := by
  refine cF ?_ ?_
  · rw [vX]; simp
  · intro i hi ih
    have hci := hd _ (List.getElem_mem hi)
    obtain ⟨s0, s1, e2, s3, s4, e5, he, h0, h1, h2, q2, h3, h4, h5, q5⟩ := (hq _ (List.getElem_mem hi)).ex
    rw [vX]
    simp only [Int.ofNat_lt, hi, decide_true, aE, Int.natCast_nonneg, Bool.and_true, Int.toNat_natCast, aG, aV (Nat.lt_of_lt_of_le hi hl), aN (fun e he => (hq e he).len), bI hi]
    rw [he] at hci ⊢
    simp only [dV, cJ, cN, cB, bJ, cK, dZ, hci, Option.bind_some, aX, Bool.not_true, aD]
    exact ih
theorem aD1 {es : List (List (aC false))} (hl : es.length ≤ maxLen) (hq : ∀ e ∈ es, cC e) (hd : ∀ e ∈ es, Dn F.aXp [.agg e, .agg e] [] = some (aH true, [])) : Dn F.aXa [vsl es, vsl es] [] = some (aH true, []) := by
  refine aP ?_
  rw [aES]
  have := aDW hl hq hd 0 (Nat.zero_le _)
  simpa using this
theorem aIF {ls : List (aC false)} (h : cC ls) : Dn F.aXp [.agg ls, .agg ls] [] = some (aH true, []) := by
  cases h with
  | mk s0 s1 e2 s3 s4 e5 h0 h1 h2 q2 h3 h4 h5 q5 =>
    refine aP ?_
    rw [aF6]
    have c2 := aDy h2 q2
    have c3 := aGK (.mk s3 s4 h3 h4)
    have c5 := rR h5 q5
    simp [c2, c3, c5]
theorem aG1 {es : List (List (aC false))} (hl : es.length ≤ maxLen) (hq : ∀ e ∈ es, cC e) : Dn F.aXa [vsl es, vsl es] [] = some (aH true, []) := aD1 hl hq fun e he => aIF (hq e he)
theorem aEk {es : List (List (aC false))} (hl : es.length ≤ maxLen) (hq : ∀ e ∈ es, cX e) (hd : ∀ e ∈ es, Dn F.aXI [.agg e, .agg e] [] = some (aH true, [])) : ∀ i : Nat, i ≤ es.length →
    gY Dn (pX es es i) = some (aH true, []) := by
  refine cF ?_ ?_
  · rw [yC]; simp
  · intro i hi ih
    have hci := hd _ (List.getElem_mem hi)
    obtain ⟨s0, s1, e2, he, h0, h1, h2, q2⟩ := (hq _ (List.getElem_mem hi)).ex
    rw [yC]
    simp only [Int.ofNat_lt, hi, decide_true, aE, Int.natCast_nonneg, Bool.and_true, Int.toNat_natCast, aG, aV (Nat.lt_of_lt_of_le hi hl), aN (fun e he => (hq e he).len), bI hi]
    rw [he] at hci ⊢
    simp only [dV, cJ, cN, cB, bJ, cK, dZ, hci, Option.bind_some, aX, Bool.not_true, aD]
    exact ih
theorem aEJ {es : List (List (aC false))} (hl : es.length ≤ maxLen) (hq : ∀ e ∈ es, cX e) (hd : ∀ e ∈ es, Dn F.aXI [.agg e, .agg e] [] = some (aH true, [])) : Dn F.aXo [vsl es, vsl es] [] = some (aH true, []) := by
  refine aP ?_
  rw [aGa]
  have := aEk hl hq hd 0 (Nat.zero_le _)
  simpa using this
theorem aJK {ls : List (aC false)} (h : cX ls) : Dn F.aXI [.agg ls, .agg ls] [] = some (aH true, []) := by
  cases h with
  | mk s0 s1 e2 h0 h1 h2 q2 =>
    refine aP ?_
    rw [aG8]
    have c2 := rR h2 q2
    simp [c2]
theorem aIP {es : List (List (aC false))} (hl : es.length ≤ maxLen) (hq : ∀ e ∈ es, cX e) : Dn F.aXo [vsl es, vsl es] [] = some (aH true, []) := aEJ hl hq fun e he => aJK (hq e he)
theorem aIN {es : List (List (aC false))} (hl : es.length ≤ maxLen) (hq : ∀ e ∈ es, eV e) (hd : ∀ e ∈ es, Dn F.aYy [.agg e, .agg e] [] = some (aH true, [])) : ∀ i : Nat, i ≤ es.length →
    kB Dn (uK es es i) = some (aH true, []) := by
  refine cF ?_ ?_
  · rw [aBa]; simp
  · intro i hi ih
    have hci := hd _ (List.getElem_mem hi)
    obtain ⟨i0, s1, he, h1⟩ := (hq _ (List.getElem_mem hi)).ex
    rw [aBa]
    simp only [Int.ofNat_lt, hi, decide_true, aE, Int.natCast_nonneg, Bool.and_true, Int.toNat_natCast, aG, aV (Nat.lt_of_lt_of_le hi hl), aN (fun e he => (hq e he).len), bI hi]
    rw [he] at hci ⊢
    simp only [dV, cJ, cN, cB, bJ, cK, dZ, hci, Option.bind_some, aX, Bool.not_true, aD]
    exact ih
theorem aH9 {es : List (List (aC false))} (hl : es.length ≤ maxLen) (hq : ∀ e ∈ es, eV e) (hd : ∀ e ∈ es, Dn F.aYy [.agg e, .agg e] [] = some (aH true, [])) : Dn F.aYt [vsl es, vsl es] [] = some (aH true, []) := by
  refine aP ?_
  rw [aJF]
  have := aIN hl hq hd 0 (Nat.zero_le _)
  simpa using this
theorem aNE {ls : List (aC false)} (h : eV ls) : Dn F.aYy [.agg ls, .agg ls] [] = some (aH true, []) := by
  cases h with
  | mk i0 s1 h1 =>
    refine aP ?_
    rw [aLA]
    simp []
theorem aEK {es : List (List (aC false))} (hl : es.length ≤ maxLen) (hq : ∀ e ∈ es, eV e) : Dn F.aYt [vsl es, vsl es] [] = some (aH true, []) := aH9 hl hq fun e he => aNE (hq e he)
theorem aKo {es : List (List (aC false))} (hl : es.length ≤ maxLen) (hq : ∀ e ∈ es, fC e) (hd : ∀ e ∈ es, Dn F.aZi [.agg e, .agg e] [] = some (aH true, [])) : ∀ i : Nat, i ≤ es.length →
    lB Dn (xI es es i) = some (aH true, []) := by
  refine cF ?_ ?_
  · rw [aBQ]; simp
  · intro i hi ih
    have hci := hd _ (List.getElem_mem hi)
    obtain ⟨i0, b1, s2, s3, e4, e5, e6, e7, e8, b9, e10, he, h2, h3, h4, q4, h5, q5, h6, q6, h7, q7, h8, q8, h10, q10⟩ := (hq _ (List.getElem_mem hi)).ex
    rw [aBQ]
    simp only [Int.ofNat_lt, hi, decide_true, aE, Int.natCast_nonneg, Bool.and_true, Int.toNat_natCast, aG, aV (Nat.lt_of_lt_of_le hi hl), aN (fun e he => (hq e he).len), bI hi]
    rw [he] at hci ⊢
    simp only [dV, cJ, cN, cB, bJ, cK, dZ, hci, Option.bind_some, aX, Bool.not_true, aD]
    exact ih
theorem aJR {es : List (List (aC false))} (hl : es.length ≤ maxLen) (hq : ∀ e ∈ es, fC e) (hd : ∀ e ∈ es, Dn F.aZi [.agg e, .agg e] [] = some (aH true, [])) : Dn F.aY0 [vsl es, vsl es] [] = some (aH true, []) := by
  refine aP ?_
  rw [aLB]
  have := aKo hl hq hd 0 (Nat.zero_le _)
  simpa using this
theorem aOq {ls : List (aC false)} (h : fC ls) : Dn F.aZi [.agg ls, .agg ls] [] = some (aH true, []) := by
  cases h with
  | mk i0 b1 s2 s3 e4 e5 e6 e7 e8 b9 e10 h2 h3 h4 q4 h5 q5 h6 q6 h7 q7 h8 q8 h10 q10 =>
    refine aP ?_
    rw [aM7]
    have c4 := aCe h4 q4
    have c5 := aG1 h5 q5
    have c6 := aDy h6 q6
    have c7 := aIP h7 q7
    have c8 := aEK h8 q8
    have c10 := rR h10 q10
    simp [c4, c5, c6, c7, c8, c10]
theorem aGU {es : List (List (aC false))} (hl : es.length ≤ maxLen) (hq : ∀ e ∈ es, fC e) : Dn F.aY0 [vsl es, vsl es] [] = some (aH true, []) := aJR hl hq fun e he => aOq (hq e he)
theorem aLa {ls : List (aC false)} (h : bM ls) : Dn F.aX6 [.agg ls, .agg ls] [] = some (aH true, []) := by
  cases h with
  | mk e0 e1 e2 h0 q0 h1 q1 h2 q2 =>
    refine aP ?_
    rw [aH6]
    have c0 := aGU h0 q0
    have c1 := aGU h1 q1
    have c2 := aEK h2 q2
    simp [c0, c1, c2]
theorem aKr {es : List (List (aC false))} (hl : es.length ≤ maxLen) (hq : ∀ e ∈ es, eC e) (hd : ∀ e ∈ es, Dn F.aY7 [.agg e, .agg e] [] = some (aH true, [])) : ∀ i : Nat, i ≤ es.length →
    lG Dn (xC es es i) = some (aH true, []) := by
  refine cF ?_ ?_
  · rw [aBT]; simp
  · intro i hi ih
    have hci := hd _ (List.getElem_mem hi)
    obtain ⟨i0, s1, s2, s3, e4, e5, e6, he, h1, h2, h3, h4, q4, h5, q5, h6, q6⟩ := (hq _ (List.getElem_mem hi)).ex
    rw [aBT]
    simp only [Int.ofNat_lt, hi, decide_true, aE, Int.natCast_nonneg, Bool.and_true, Int.toNat_natCast, aG, aV (Nat.lt_of_lt_of_le hi hl), aN (fun e he => (hq e he).len), bI hi]
    rw [he] at hci ⊢
    simp only [dV, cJ, cN, cB, bJ, cK, dZ, hci, Option.bind_some, aX, Bool.not_true, aD]
    exact ih
theorem aCj {es : List (List (aC false))} (hl : es.length ≤ maxLen) (hq : ∀ e ∈ es, eC e) (hd : ∀ e ∈ es, Dn F.aY7 [.agg e, .agg e] [] = some (aH true, [])) : Dn F.aYL [vsl es, vsl es] [] = some (aH true, []) := by
  refine aP ?_
  rw [aLj]
  have := aKr hl hq hd 0 (Nat.zero_le _)
  simpa using this
theorem aO5 {ls : List (aC false)} (h : eC ls) : Dn F.aY7 [.agg ls, .agg ls] [] = some (aH true, []) := by
  induction h with
  | mk i0 s1 s2 s3 e4 e5 e6 h1 h2 h3 h4 q4 h5 q5 h6 q6 ih6 =>
    refine aP ?_
    rw [aM1]
    have c4 := aGL h4 q4
    have c5 := rR h5 q5
    have c6 := aCj h6 q6 ih6
    simp [c4, c5, c6]
theorem aNq {es : List (List (aC false))} (hl : es.length ≤ maxLen) (hq : ∀ e ∈ es, eC e) : Dn F.aYL [vsl es, vsl es] [] = some (aH true, []) := aCj hl hq fun e he => aO5 (hq e he)
theorem aEI {es : List (List (aC false))} (hl : es.length ≤ maxLen) (hq : ∀ e ∈ es, dP e) (hd : ∀ e ∈ es, Dn F.aXt [.agg e, .agg e] [] = some (aH true, [])) : ∀ i : Nat, i ≤ es.length →
    gZ Dn (pV es es i) = some (aH true, []) := by
  refine cF ?_ ?_
  · rw [xN]; simp
  · intro i hi ih
    have hci := hd _ (List.getElem_mem hi)
    obtain ⟨i0, s1, s2, he⟩ := (hq _ (List.getElem_mem hi)).ex
    rw [xN]
    simp only [Int.ofNat_lt, hi, decide_true, aE, Int.natCast_nonneg, Bool.and_true, Int.toNat_natCast, aG, aV (Nat.lt_of_lt_of_le hi hl), aN (fun e he => (hq e he).len), bI hi]
    rw [he] at hci ⊢
    simp only [dV, cJ, cN, cB, bJ, cK, dZ, hci, Option.bind_some, aX, Bool.not_true, aD]
    exact ih
theorem aFj {es : List (List (aC false))} (hl : es.length ≤ maxLen) (hq : ∀ e ∈ es, dP e) (hd : ∀ e ∈ es, Dn F.aXt [.agg e, .agg e] [] = some (aH true, [])) : Dn F.aXn [vsl es, vsl es] [] = some (aH true, []) := by
  refine aP ?_
  rw [aGn]
  have := aEI hl hq hd 0 (Nat.zero_le _)
  simpa using this
theorem aKt {ls : List (aC false)} (h : dP ls) : Dn F.aXt [.agg ls, .agg ls] [] = some (aH true, []) := by
  cases h with
  | mk i0 s1 s2 =>
    refine aP ?_
    rw [aH0]
    simp []
theorem aIz {es : List (List (aC false))} (hl : es.length ≤ maxLen) (hq : ∀ e ∈ es, dP e) : Dn F.aXn [vsl es, vsl es] [] = some (aH true, []) := aFj hl hq fun e he => aKt (hq e he)
end Go.Vs
end
section
open Go Go.Vs Go.Proofs
set_option maxRecDepth 100000
set_option linter.unusedVariables false
namespace Go.Vs
noncomputable section
variable (D : bK true)
def aBb := atA D F.aX1
theorem aGc (c0_0 : Fl true) (e0_0 : LT) (c0_1 : Fl true) (e0_1 : LT) (c0_2 : Fl true) (e0_2 : LT) : aT Tryz.prog D Hs bA F.aX1 [.agg [.sl c0_0 e0_0,.sl c0_1 e0_1,.sl c0_2 e0_2]] [] = (D F.aYG [.leaf (.sl c0_0 e0_0)] []).bind fun r => kO r.fst fun c es => (D F.aYG [.leaf (.sl c0_1 e0_1)] []).bind fun r => kO r.fst fun c_1 es_1 => (D F.aYj [.leaf (.sl c0_2 e0_2)] []).bind fun r => kO r.fst fun c_2 es_2 => some (.agg [.sl c es,.sl c_1 es_1,.sl c_2 es_2],[]) := by refine (aF (J := aBb D) (by kernel_rfl) (fun _ _ => rfl) []).trans ?_; generalize aBb D = J; revert J; refine id ?_; intro J; kernel_rfl
section
variable (c0 : Fl true) (e0 : LT) (n3 : Nat) (i4 : Int) (vx7 : List (SV true))
def jB := atA D F.aYu
def sP : PT := ([1,1,0,1,0],St.mk ([.leaf (.sl c0 e0),.any,.any,.bsl 7 7 0 n3,.leaf (.int .i64 i4)] ++ bN 18) (noB 7 ++ [some vx7] ++ noB 15))
theorem aAG : jB D (sP c0 e0 n3 i4 vx7) = aB (decide (i4 < (↑e0.length : Int))) (aA (decide (0 ≤ i4) && decide (i4 < (↑e0.length : Int)) && sized 7 e0) (gI (e0.getD i4.toNat []) fun e => atK e 0 fun l => dG .i64 l fun n => atK e 1 fun l => cE l fun s => atK e 2 fun l => cE l fun s_1 => atK e 3 fun l => cE l fun s_2 => atK e 4 fun l => slK l fun c es => atK e 5 fun l => slK l fun c_1 es_1 => atK e 6 fun l => slK l fun c_2 es_2 => (D F.aZo [.agg [.int .i64 n,.str s,.str s_1,.str s_2,.sl c es,.sl c_1 es_1,.sl c_2 es_2]] []).bind fun r => fA r.fst fun cs => aA (cs.length == 7) (atK cs 0 fun l => dG .i64 l fun n => atK cs 1 fun l => cE l fun s => atK cs 2 fun l => cE l fun s_3 => atK cs 3 fun l => cE l fun s_4 => atK cs 4 fun l => slK l fun c es => atK cs 5 fun l => slK l fun c_3 es_3 => atK cs 6 fun l => slK l fun c_4 es_4 => aA (decide (0 ≤ i4) && decide (i4 < (↑n3 : Int))) (aA (decide ((0 + i4.toNat) * 7 + 7 ≤ vx7.length)) (jB D (sP c0 e0 n3 (IntKind.i64.wrap (i4 + 1)) (gN vx7 ((0 + i4.toNat) * 7) [.leaf (.int .i64 n),.leaf (.str s),.leaf (.str s_3),.leaf (.str s_4),.leaf (.sl c es),.leaf (.sl c_3 es_3),.leaf (.sl c_4 es_4)]))))))) (aA (decide (n3 * 7 ≤ vx7.length)) ((cM (List.take (n3 * 7) vx7)).bind fun l => some (.leaf (.sl aQ (kH 7 n3 l)),[]))) := by refine (aL (J := jB D) (fun _ _ => rfl) [[1,1,0,1,0]] _).trans ?_; generalize jB D = J; revert J; refine id ?_; intro J; kernel_rfl
theorem aIH : aT Tryz.prog D Hs bA F.aYu [.leaf (.sl c0 e0)] [] = aA ((↑e0.length : Int) == (↑e0.length : Int) && decide ((↑e0.length : Int).toNat * 128 ≤ aK) && decide ((↑e0.length : Int).toNat ≤ aK)) (jB D (sP c0 e0 (decide (0 ≤ (↑e0.length : Int)) && (↑e0.length : Int) == (↑e0.length : Int) && decide ((↑e0.length : Int).toNat * Tryz.prog.types[58].bytes ≤ aK) && decide ((↑e0.length : Int).toNat ≤ aK),(Tryz.prog.types[58].size,(↑e0.length : Int).toNat),List.map SV.leaf (List.replicate (↑e0.length : Int).toNat ((fun (x : List (aC true)) => .int .i64 0 :: x) ((fun (x : List (aC true)) => .str (ByteArray.mk #[]) :: x) ((fun (x : List (aC true)) => .str (ByteArray.mk #[]) :: x) ((fun (x : List (aC true)) => .str (ByteArray.mk #[]) :: x) ((fun (x : List (aC true)) => .sl (Fl.new true) [] :: x) ((fun (x : List (aC true)) => .sl (Fl.new true) [] :: x) ((fun (x : List (aC true)) => .sl (Fl.new true) [] :: x) [])))))))).flatten).snd.fst.snd 0 (decide (0 ≤ (↑e0.length : Int)) && (↑e0.length : Int) == (↑e0.length : Int) && decide ((↑e0.length : Int).toNat * Tryz.prog.types[58].bytes ≤ aK) && decide ((↑e0.length : Int).toNat ≤ aK),(Tryz.prog.types[58].size,(↑e0.length : Int).toNat),List.map SV.leaf (List.replicate (↑e0.length : Int).toNat ((fun (x : List (aC true)) => .int .i64 0 :: x) ((fun (x : List (aC true)) => .str (ByteArray.mk #[]) :: x) ((fun (x : List (aC true)) => .str (ByteArray.mk #[]) :: x) ((fun (x : List (aC true)) => .str (ByteArray.mk #[]) :: x) ((fun (x : List (aC true)) => .sl (Fl.new true) [] :: x) ((fun (x : List (aC true)) => .sl (Fl.new true) [] :: x) ((fun (x : List (aC true)) => .sl (Fl.new true) [] :: x) [])))))))).flatten).snd.snd)) := by refine (aF (J := jB D) (by kernel_rfl) (fun _ _ => rfl) [[1,1,0,1,0]]).trans ?_; generalize jB D = J; revert J; refine id ?_; intro J; kernel_rfl
end
def zE := atA D F.aXi
theorem aDF (c0_0 : Fl true) (e0_0 : LT) (c0_1 : Fl true) (e0_1 : LT) (c0_2 : Fl true) (e0_2 : LT) (i1 : Int) : aT Tryz.prog D Hs bA F.aXi [.agg [.sl c0_0 e0_0,.sl c0_1 e0_1,.sl c0_2 e0_2],.leaf (.int .i64 i1)] [] = (D F.aXQ [.leaf (.sl c0_0 e0_0),.leaf (.int .i64 i1)] []).bind fun r => aM r.fst fun l => dG .i64 l fun n => (D F.aXQ [.leaf (.sl c0_1 e0_1),.leaf (.int .i64 n)] []).bind fun r => aM r.fst fun l => dG .i64 l fun n => (D F.aXD [.leaf (.sl c0_2 e0_2),.leaf (.int .i64 n)] []).bind fun r => aM r.fst fun l => dG .i64 l fun n => some (.leaf (.int .i64 n),[]) := by refine (aF (J := zE D) (by kernel_rfl) (fun _ _ => rfl) []).trans ?_; generalize zE D = J; revert J; refine id ?_; intro J; kernel_rfl
section
variable (c0 : Fl true) (e0 : LT) (i1 i5 : Int)
def hR := atA D F.aX2
def pO : PT := ([1,0,1,0],St.mk ([.leaf (.sl c0 e0),.leaf (.int .i64 i1),.any,.any,.any,.leaf (.int .i64 i5)] ++ bN 59) (noB 65))
theorem yK : hR D (pO c0 e0 i1 i5) = aB (decide (i5 < (↑e0.length : Int))) (aA (decide (0 ≤ i5) && decide (i5 < (↑e0.length : Int)) && sized 7 e0) (if (c0.isSoft = true ∧ eG (e0.getD i5.toNat []) 0 = true) ∧ ((.leaf (.int .i64 i1) : SV true)).plain = true ∧ dS Tryz.prog 3 = some 1 then (D F.aXY [.leaf (.int .i64 (IntKind.i64.wrap (i1 + 1)))] []).bind fun r => aM r.fst fun l => cE l fun s => aA (decide (0 ≤ i5) && decide (i5 < (↑e0.length : Int)) && sized 7 e0) (if (c0.isSoft = true ∧ eG (e0.getD i5.toNat []) 1 = true) ∧ ((.leaf (.str s) : SV true)).plain = true ∧ dS Tryz.prog 9 = some 1 then (D F.aXY [.leaf (.int .i64 (IntKind.i64.wrap (IntKind.i64.wrap (i1 + 1) + 1)))] []).bind fun r => aM r.fst fun l => cE l fun s => aA (decide (0 ≤ i5) && decide (i5 < (↑e0.length : Int)) && sized 7 e0) (if (c0.isSoft = true ∧ eG (e0.getD i5.toNat []) 2 = true) ∧ ((.leaf (.str s) : SV true)).plain = true ∧ dS Tryz.prog 9 = some 1 then (D F.aXY [.leaf (.int .i64 (IntKind.i64.wrap (IntKind.i64.wrap (IntKind.i64.wrap (i1 + 1) + 1) + 1)))] []).bind fun r => aM r.fst fun l => cE l fun s => aA (decide (0 ≤ i5) && decide (i5 < (↑e0.length : Int)) && sized 7 e0) (if (c0.isSoft = true ∧ eG (e0.getD i5.toNat []) 3 = true) ∧ ((.leaf (.str s) : SV true)).plain = true ∧ dS Tryz.prog 9 = some 1 then aA (decide (0 ≤ i5) && decide (i5 < (↑e0.length : Int)) && sized 7 e0) (atK (e0.getD i5.toNat []) 4 fun l => slK l fun c es => (D F.aX7 [.leaf (.sl c es),.leaf (.int .i64 (IntKind.i64.wrap (IntKind.i64.wrap (IntKind.i64.wrap (IntKind.i64.wrap (i1 + 1) + 1) + 1) + 1)))] []).bind fun r => aM r.fst fun l => dG .i64 l fun n => aA (decide (0 ≤ i5) && decide (i5 < (↑e0.length : Int)) && sized 7 e0) (atK (e0.getD i5.toNat []) 5 fun l => slK l fun c es => (D F.aX3 [.leaf (.sl c es),.leaf (.int .i64 n)] []).bind fun r => aM r.fst fun l => dG .i64 l fun n => aA (decide (0 ≤ i5) && decide (i5 < (↑e0.length : Int)) && sized 7 e0) (atK (e0.getD i5.toNat []) 6 fun l => slK l fun c es => (D F.aX2 [.leaf (.sl c es),.leaf (.int .i64 n)] []).bind fun r => aM r.fst fun l => dG .i64 l fun n => hR D (pO c0 e0 n (IntKind.i64.wrap (i5 + 1)))))) else none) else none) else none) else none)) (some (.leaf (.int .i64 i1),[])) := by refine (aL (J := hR D) (fun _ _ => rfl) [[1,0,1,0]] _).trans ?_; generalize hR D = J; revert J; refine id ?_; intro J; kernel_rfl
theorem aF4 : aT Tryz.prog D Hs bA F.aX2 [.leaf (.sl c0 e0),.leaf (.int .i64 i1)] [] = hR D (pO c0 e0 i1 0) := by refine (aF (J := hR D) (by kernel_rfl) (fun _ _ => rfl) [[1,0,1,0]]).trans ?_; generalize hR D = J; revert J; refine id ?_; intro J; kernel_rfl
end
section
variable (c0 : Fl true) (e0 : LT) (n3 : Nat) (i4 : Int) (vx7 : List (SV true))
def jJ := atA D F.aYG
def sR : PT := ([1,1,0,1,0],St.mk ([.leaf (.sl c0 e0),.any,.any,.bsl 7 11 0 n3,.leaf (.int .i64 i4)] ++ bN 18) (noB 7 ++ [some vx7] ++ noB 15))
theorem aAB : jJ D (sR c0 e0 n3 i4 vx7) = aB (decide (i4 < (↑e0.length : Int))) (aA (decide (0 ≤ i4) && decide (i4 < (↑e0.length : Int)) && sized 11 e0) (gI (e0.getD i4.toNat []) fun e => atK e 0 fun l => dG .i64 l fun n => atK e 1 fun l => dY l fun b => atK e 2 fun l => cE l fun s => atK e 3 fun l => cE l fun s_1 => atK e 4 fun l => slK l fun c es => atK e 5 fun l => slK l fun c_1 es_1 => atK e 6 fun l => slK l fun c_2 es_2 => atK e 7 fun l => slK l fun c_3 es_3 => atK e 8 fun l => slK l fun c_4 es_4 => atK e 9 fun l => dY l fun b_1 => atK e 10 fun l => slK l fun c_5 es_5 => (D F.aZh [.agg [.int .i64 n,.bool b,.str s,.str s_1,.sl c es,.sl c_1 es_1,.sl c_2 es_2,.sl c_3 es_3,.sl c_4 es_4,.bool b_1,.sl c_5 es_5]] []).bind fun r => fA r.fst fun cs => aA (cs.length == 11) (atK cs 0 fun l => dG .i64 l fun n => atK cs 1 fun l => dY l fun b => atK cs 2 fun l => cE l fun s => atK cs 3 fun l => cE l fun s_2 => atK cs 4 fun l => slK l fun c es => atK cs 5 fun l => slK l fun c_6 es_6 => atK cs 6 fun l => slK l fun c_7 es_7 => atK cs 7 fun l => slK l fun c_8 es_8 => atK cs 8 fun l => slK l fun c_9 es_9 => atK cs 9 fun l => dY l fun b_2 => atK cs 10 fun l => slK l fun c_10 es_10 => aA (decide (0 ≤ i4) && decide (i4 < (↑n3 : Int))) (aA (decide ((0 + i4.toNat) * 11 + 11 ≤ vx7.length)) (jJ D (sR c0 e0 n3 (IntKind.i64.wrap (i4 + 1)) (gN vx7 ((0 + i4.toNat) * 11) [.leaf (.int .i64 n),.leaf (.bool b),.leaf (.str s),.leaf (.str s_2),.leaf (.sl c es),.leaf (.sl c_6 es_6),.leaf (.sl c_7 es_7),.leaf (.sl c_8 es_8),.leaf (.sl c_9 es_9),.leaf (.bool b_2),.leaf (.sl c_10 es_10)]))))))) (aA (decide (n3 * 11 ≤ vx7.length)) ((cM (List.take (n3 * 11) vx7)).bind fun l => some (.leaf (.sl aQ (kH 11 n3 l)),[]))) := by refine (aL (J := jJ D) (fun _ _ => rfl) [[1,1,0,1,0]] _).trans ?_; generalize jJ D = J; revert J; refine id ?_; intro J; kernel_rfl
theorem aIs : aT Tryz.prog D Hs bA F.aYG [.leaf (.sl c0 e0)] [] = aA ((↑e0.length : Int) == (↑e0.length : Int) && decide ((↑e0.length : Int).toNat * 200 ≤ aK) && decide ((↑e0.length : Int).toNat ≤ aK)) (jJ D (sR c0 e0 (decide (0 ≤ (↑e0.length : Int)) && (↑e0.length : Int) == (↑e0.length : Int) && decide ((↑e0.length : Int).toNat * Tryz.prog.types[108].bytes ≤ aK) && decide ((↑e0.length : Int).toNat ≤ aK),(Tryz.prog.types[108].size,(↑e0.length : Int).toNat),List.map SV.leaf (List.replicate (↑e0.length : Int).toNat ((fun (x : List (aC true)) => .int .i64 0 :: x) ((fun (x : List (aC true)) => .bool false :: x) ((fun (x : List (aC true)) => .str (ByteArray.mk #[]) :: x) ((fun (x : List (aC true)) => .str (ByteArray.mk #[]) :: x) ((fun (x : List (aC true)) => .sl (Fl.new true) [] :: x) ((fun (x : List (aC true)) => .sl (Fl.new true) [] :: x) ((fun (x : List (aC true)) => .sl (Fl.new true) [] :: x) ((fun (x : List (aC true)) => .sl (Fl.new true) [] :: x) ((fun (x : List (aC true)) => .sl (Fl.new true) [] :: x) ((fun (x : List (aC true)) => .bool false :: x) ((fun (x : List (aC true)) => .sl (Fl.new true) [] :: x) [])))))))))))).flatten).snd.fst.snd 0 (decide (0 ≤ (↑e0.length : Int)) && (↑e0.length : Int) == (↑e0.length : Int) && decide ((↑e0.length : Int).toNat * Tryz.prog.types[108].bytes ≤ aK) && decide ((↑e0.length : Int).toNat ≤ aK),(Tryz.prog.types[108].size,(↑e0.length : Int).toNat),List.map SV.leaf (List.replicate (↑e0.length : Int).toNat ((fun (x : List (aC true)) => .int .i64 0 :: x) ((fun (x : List (aC true)) => .bool false :: x) ((fun (x : List (aC true)) => .str (ByteArray.mk #[]) :: x) ((fun (x : List (aC true)) => .str (ByteArray.mk #[]) :: x) ((fun (x : List (aC true)) => .sl (Fl.new true) [] :: x) ((fun (x : List (aC true)) => .sl (Fl.new true) [] :: x) ((fun (x : List (aC true)) => .sl (Fl.new true) [] :: x) ((fun (x : List (aC true)) => .sl (Fl.new true) [] :: x) ((fun (x : List (aC true)) => .sl (Fl.new true) [] :: x) ((fun (x : List (aC true)) => .bool false :: x) ((fun (x : List (aC true)) => .sl (Fl.new true) [] :: x) [])))))))))))).flatten).snd.snd)) := by refine (aF (J := jJ D) (by kernel_rfl) (fun _ _ => rfl) [[1,1,0,1,0]]).trans ?_; generalize jJ D = J; revert J; refine id ?_; intro J; kernel_rfl
end
section
variable (c0 : Fl true) (e0 : LT) (n3 : Nat) (i4 : Int) (vx7 : List (SV true))
def iL := atA D F.aYj
def qQ : PT := ([1,1,0,1,0],St.mk ([.leaf (.sl c0 e0),.any,.any,.bsl 7 2 0 n3,.leaf (.int .i64 i4)] ++ bN 18) (noB 7 ++ [some vx7] ++ noB 15))
theorem yZ : iL D (qQ c0 e0 n3 i4 vx7) = aB (decide (i4 < (↑e0.length : Int))) (aA (decide (0 ≤ i4) && decide (i4 < (↑e0.length : Int)) && sized 2 e0) (gI (e0.getD i4.toNat []) fun e => atK e 0 fun l => dG .i64 l fun n => atK e 1 fun l => cE l fun s => (D F.aY2 [.agg [.int .i64 n,.str s]] []).bind fun r => fA r.fst fun cs => aA (cs.length == 2) (atK cs 0 fun l => dG .i64 l fun n => atK cs 1 fun l => cE l fun s => aA (decide (0 ≤ i4) && decide (i4 < (↑n3 : Int))) (aA (decide ((0 + i4.toNat) * 2 + 2 ≤ vx7.length)) (iL D (qQ c0 e0 n3 (IntKind.i64.wrap (i4 + 1)) (gN vx7 ((0 + i4.toNat) * 2) [.leaf (.int .i64 n),.leaf (.str s)]))))))) (aA (decide (n3 * 2 ≤ vx7.length)) ((cM (List.take (n3 * 2) vx7)).bind fun l => some (.leaf (.sl aQ (kH 2 n3 l)),[]))) := by refine (aL (J := iL D) (fun _ _ => rfl) [[1,1,0,1,0]] _).trans ?_; generalize iL D = J; revert J; refine id ?_; intro J; kernel_rfl
theorem aHO : aT Tryz.prog D Hs bA F.aYj [.leaf (.sl c0 e0)] [] = aA ((↑e0.length : Int) == (↑e0.length : Int) && decide ((↑e0.length : Int).toNat * 24 ≤ aK) && decide ((↑e0.length : Int).toNat ≤ aK)) (iL D (qQ c0 e0 (decide (0 ≤ (↑e0.length : Int)) && (↑e0.length : Int) == (↑e0.length : Int) && decide ((↑e0.length : Int).toNat * Tryz.prog.types[125].bytes ≤ aK) && decide ((↑e0.length : Int).toNat ≤ aK),(Tryz.prog.types[125].size,(↑e0.length : Int).toNat),List.map SV.leaf (List.replicate (↑e0.length : Int).toNat ((fun (x : List (aC true)) => .int .i64 0 :: x) ((fun (x : List (aC true)) => .str (ByteArray.mk #[]) :: x) []))).flatten).snd.fst.snd 0 (decide (0 ≤ (↑e0.length : Int)) && (↑e0.length : Int) == (↑e0.length : Int) && decide ((↑e0.length : Int).toNat * Tryz.prog.types[125].bytes ≤ aK) && decide ((↑e0.length : Int).toNat ≤ aK),(Tryz.prog.types[125].size,(↑e0.length : Int).toNat),List.map SV.leaf (List.replicate (↑e0.length : Int).toNat ((fun (x : List (aC true)) => .int .i64 0 :: x) ((fun (x : List (aC true)) => .str (ByteArray.mk #[]) :: x) []))).flatten).snd.snd)) := by refine (aF (J := iL D) (by kernel_rfl) (fun _ _ => rfl) [[1,1,0,1,0]]).trans ?_; generalize iL D = J; revert J; refine id ?_; intro J; kernel_rfl
end
def aFF := atA D F.aZo
theorem aKg (i0_0 : Int) (s0_1 s0_2 s0_3 : ByteArray) (c0_4 : Fl true) (e0_4 : LT) (c0_5 : Fl true) (e0_5 : LT) (c0_6 : Fl true) (e0_6 : LT) : aT Tryz.prog D Hs bA F.aZo [.agg [.int .i64 i0_0,.str s0_1,.str s0_2,.str s0_3,.sl c0_4 e0_4,.sl c0_5 e0_5,.sl c0_6 e0_6]] [] = (D F.aYW [.leaf (.sl c0_4 e0_4)] []).bind fun r => kO r.fst fun c es => (D F.aYB [.leaf (.sl c0_5 e0_5)] []).bind fun r => kO r.fst fun c_1 es_1 => (D F.aYu [.leaf (.sl c0_6 e0_6)] []).bind fun r => kO r.fst fun c_2 es_2 => some (.agg [.int .i64 i0_0,.str s0_1,.str s0_2,.str s0_3,.sl c es,.sl c_1 es_1,.sl c_2 es_2],[]) := by refine (aF (J := aFF D) (by kernel_rfl) (fun _ _ => rfl) []).trans ?_; generalize aFF D = J; revert J; refine id ?_; intro J; kernel_rfl
section
variable (c0 : Fl true) (e0 : LT) (i1 i5 : Int)
def gX := atA D F.aXQ
def pR : PT := ([1,0,1,0],St.mk ([.leaf (.sl c0 e0),.leaf (.int .i64 i1),.any,.any,.any,.leaf (.int .i64 i5)] ++ bN 90) (noB 96))
theorem xV : gX D (pR c0 e0 i1 i5) = aB (decide (i5 < (↑e0.length : Int))) (aA (decide (0 ≤ i5) && decide (i5 < (↑e0.length : Int)) && sized 11 e0) (if (c0.isSoft = true ∧ eG (e0.getD i5.toNat []) 0 = true) ∧ ((.leaf (.int .i64 i1) : SV true)).plain = true ∧ dS Tryz.prog 3 = some 1 then aA (decide (0 ≤ i5) && decide (i5 < (↑e0.length : Int)) && sized 11 e0) (if (c0.isSoft = true ∧ eG (e0.getD i5.toNat []) 1 = true) ∧ ((.leaf (.bool ((IntKind.i64.wrap (i1 + 1)).tmod 3 == 0)) : SV true)).plain = true ∧ dS Tryz.prog 4 = some 1 then (D F.aXY [.leaf (.int .i64 (IntKind.i64.wrap (IntKind.i64.wrap (i1 + 1) + 1)))] []).bind fun r => aM r.fst fun l => cE l fun s => aA (decide (0 ≤ i5) && decide (i5 < (↑e0.length : Int)) && sized 11 e0) (if (c0.isSoft = true ∧ eG (e0.getD i5.toNat []) 2 = true) ∧ ((.leaf (.str s) : SV true)).plain = true ∧ dS Tryz.prog 9 = some 1 then (D F.aXY [.leaf (.int .i64 (IntKind.i64.wrap (IntKind.i64.wrap (IntKind.i64.wrap (i1 + 1) + 1) + 1)))] []).bind fun r => aM r.fst fun l => cE l fun s => aA (decide (0 ≤ i5) && decide (i5 < (↑e0.length : Int)) && sized 11 e0) (if (c0.isSoft = true ∧ eG (e0.getD i5.toNat []) 3 = true) ∧ ((.leaf (.str s) : SV true)).plain = true ∧ dS Tryz.prog 9 = some 1 then aA (decide (0 ≤ i5) && decide (i5 < (↑e0.length : Int)) && sized 11 e0) (atK (e0.getD i5.toNat []) 4 fun l => slK l fun c es => (D F.aXb [.leaf (.sl c es),.leaf (.int .i64 (IntKind.i64.wrap (IntKind.i64.wrap (IntKind.i64.wrap (IntKind.i64.wrap (i1 + 1) + 1) + 1) + 1)))] []).bind fun r => aM r.fst fun l => dG .i64 l fun n => aA (decide (0 ≤ i5) && decide (i5 < (↑e0.length : Int)) && sized 11 e0) (atK (e0.getD i5.toNat []) 5 fun l => slK l fun c es => (D F.aWP [.leaf (.sl c es),.leaf (.int .i64 n)] []).bind fun r => aM r.fst fun l => dG .i64 l fun n => aA (decide (0 ≤ i5) && decide (i5 < (↑e0.length : Int)) && sized 11 e0) (atK (e0.getD i5.toNat []) 6 fun l => slK l fun c es => (D F.aXk [.leaf (.sl c es),.leaf (.int .i64 n)] []).bind fun r => aM r.fst fun l => dG .i64 l fun n => aA (decide (0 ≤ i5) && decide (i5 < (↑e0.length : Int)) && sized 11 e0) (atK (e0.getD i5.toNat []) 7 fun l => slK l fun c es => (D F.aW0 [.leaf (.sl c es),.leaf (.int .i64 n)] []).bind fun r => aM r.fst fun l => dG .i64 l fun n => aA (decide (0 ≤ i5) && decide (i5 < (↑e0.length : Int)) && sized 11 e0) (atK (e0.getD i5.toNat []) 8 fun l => slK l fun c es => (D F.aXD [.leaf (.sl c es),.leaf (.int .i64 n)] []).bind fun r => aM r.fst fun l => dG .i64 l fun n => aA (decide (0 ≤ i5) && decide (i5 < (↑e0.length : Int)) && sized 11 e0) (if (c0.isSoft = true ∧ eG (e0.getD i5.toNat []) 9 = true) ∧ ((.leaf (.bool (n.tmod 3 == 0)) : SV true)).plain = true ∧ dS Tryz.prog 4 = some 1 then aA (decide (0 ≤ i5) && decide (i5 < (↑e0.length : Int)) && sized 11 e0) (atK (e0.getD i5.toNat []) 10 fun l => slK l fun c es => (D F.aX3 [.leaf (.sl c es),.leaf (.int .i64 (IntKind.i64.wrap (n + 1)))] []).bind fun r => aM r.fst fun l => dG .i64 l fun n => gX D (pR c0 e0 n (IntKind.i64.wrap (i5 + 1)))) else none)))))) else none) else none) else none) else none)) (some (.leaf (.int .i64 i1),[])) := by refine (aL (J := gX D) (fun _ _ => rfl) [[1,0,1,0]] _).trans ?_; generalize gX D = J; revert J; refine id ?_; intro J; kernel_rfl
theorem aGq : aT Tryz.prog D Hs bA F.aXQ [.leaf (.sl c0 e0),.leaf (.int .i64 i1)] [] = gX D (pR c0 e0 i1 0) := by refine (aF (J := gX D) (by kernel_rfl) (fun _ _ => rfl) [[1,0,1,0]]).trans ?_; generalize gX D = J; revert J; refine id ?_; intro J; kernel_rfl
end
section
variable (c0 : Fl true) (e0 : LT) (i1 i5 : Int)
def fX := atA D F.aXD
def oX : PT := ([1,0,1,0],St.mk ([.leaf (.sl c0 e0),.leaf (.int .i64 i1),.any,.any,.any,.leaf (.int .i64 i5)] ++ bN 22) (noB 28))
theorem vR : fX D (oX c0 e0 i1 i5) = aB (decide (i5 < (↑e0.length : Int))) (aA (decide (0 ≤ i5) && decide (i5 < (↑e0.length : Int)) && sized 2 e0) (if (c0.isSoft = true ∧ eG (e0.getD i5.toNat []) 0 = true) ∧ ((.leaf (.int .i64 i1) : SV true)).plain = true ∧ dS Tryz.prog 3 = some 1 then (D F.aXY [.leaf (.int .i64 (IntKind.i64.wrap (i1 + 1)))] []).bind fun r => aM r.fst fun l => cE l fun s => aA (decide (0 ≤ i5) && decide (i5 < (↑e0.length : Int)) && sized 2 e0) (if (c0.isSoft = true ∧ eG (e0.getD i5.toNat []) 1 = true) ∧ ((.leaf (.str s) : SV true)).plain = true ∧ dS Tryz.prog 9 = some 1 then fX D (oX c0 e0 (IntKind.i64.wrap (IntKind.i64.wrap (i1 + 1) + 1)) (IntKind.i64.wrap (i5 + 1))) else none) else none)) (some (.leaf (.int .i64 i1),[])) := by refine (aL (J := fX D) (fun _ _ => rfl) [[1,0,1,0]] _).trans ?_; generalize fX D = J; revert J; refine id ?_; intro J; kernel_rfl
theorem aEC : aT Tryz.prog D Hs bA F.aXD [.leaf (.sl c0 e0),.leaf (.int .i64 i1)] [] = fX D (oX c0 e0 i1 0) := by refine (aF (J := fX D) (by kernel_rfl) (fun _ _ => rfl) [[1,0,1,0]]).trans ?_; generalize fX D = J; revert J; refine id ?_; intro J; kernel_rfl
end
section
variable (c0 : Fl true) (e0 : LT) (i1 i5 : Int)
def gR := atA D F.aX7
def pP : PT := ([1,0,1,0],St.mk ([.leaf (.sl c0 e0),.leaf (.int .i64 i1),.any,.any,.any,.leaf (.int .i64 i5)] ++ bN 48) (noB 54))
theorem yI : gR D (pP c0 e0 i1 i5) = aB (decide (i5 < (↑e0.length : Int))) ((D F.aXY [.leaf (.int .i64 i1)] []).bind fun r => aM r.fst fun l => cE l fun s => aA (decide (0 ≤ i5) && decide (i5 < (↑e0.length : Int)) && sized 5 e0) (if (c0.isSoft = true ∧ eG (e0.getD i5.toNat []) 0 = true) ∧ ((.leaf (.str s) : SV true)).plain = true ∧ dS Tryz.prog 9 = some 1 then aA (decide (0 ≤ i5) && decide (i5 < (↑e0.length : Int)) && sized 5 e0) (if (c0.isSoft = true ∧ eG (e0.getD i5.toNat []) 1 = true) ∧ ((.leaf (.int .i64 (IntKind.i64.wrap (i1 + 1))) : SV true)).plain = true ∧ dS Tryz.prog 3 = some 1 then (D F.aXY [.leaf (.int .i64 (IntKind.i64.wrap (IntKind.i64.wrap (i1 + 1) + 1)))] []).bind fun r => aM r.fst fun l => cE l fun s => aA (decide (0 ≤ i5) && decide (i5 < (↑e0.length : Int)) && sized 5 e0) (if (c0.isSoft = true ∧ eG (e0.getD i5.toNat []) 2 = true) ∧ ((.leaf (.str s) : SV true)).plain = true ∧ dS Tryz.prog 9 = some 1 then aA (decide (0 ≤ i5) && decide (i5 < (↑e0.length : Int)) && sized 5 e0) (atK (e0.getD i5.toNat []) 3 fun l => slK l fun c es => (D F.aXj [.leaf (.sl c es),.leaf (.int .i64 (IntKind.i64.wrap (IntKind.i64.wrap (IntKind.i64.wrap (i1 + 1) + 1) + 1)))] []).bind fun r => aM r.fst fun l => dG .i64 l fun n => aA (decide (0 ≤ i5) && decide (i5 < (↑e0.length : Int)) && sized 5 e0) (atK (e0.getD i5.toNat []) 4 fun l => slK l fun c es => (D F.aXb [.leaf (.sl c es),.leaf (.int .i64 n)] []).bind fun r => aM r.fst fun l => dG .i64 l fun n => gR D (pP c0 e0 n (IntKind.i64.wrap (i5 + 1))))) else none) else none) else none)) (some (.leaf (.int .i64 i1),[])) := by refine (aL (J := gR D) (fun _ _ => rfl) [[1,0,1,0]] _).trans ?_; generalize gR D = J; revert J; refine id ?_; intro J; kernel_rfl
theorem aGg : aT Tryz.prog D Hs bA F.aX7 [.leaf (.sl c0 e0),.leaf (.int .i64 i1)] [] = gR D (pP c0 e0 i1 0) := by refine (aF (J := gR D) (by kernel_rfl) (fun _ _ => rfl) [[1,0,1,0]]).trans ?_; generalize gR D = J; revert J; refine id ?_; intro J; kernel_rfl
end
section
variable (c0 : Fl true) (e0 : LT) (i1 i5 : Int)
def hU := atA D F.aX3
def pU : PT := ([1,0,1,0],St.mk ([.leaf (.sl c0 e0),.leaf (.int .i64 i1),.any,.any,.any,.leaf (.int .i64 i5)] ++ bN 22) (noB 28))
theorem xO : hU D (pU c0 e0 i1 i5) = aB (decide (i5 < (↑e0.length : Int))) ((D F.aXY [.leaf (.int .i64 i1)] []).bind fun r => aM r.fst fun l => cE l fun s => aA (decide (0 ≤ i5) && decide (i5 < (↑e0.length : Int)) && sized 2 e0) (if (c0.isSoft = true ∧ eG (e0.getD i5.toNat []) 0 = true) ∧ ((.leaf (.str s) : SV true)).plain = true ∧ dS Tryz.prog 9 = some 1 then aA (decide (0 ≤ i5) && decide (i5 < (↑e0.length : Int)) && sized 2 e0) (atK (e0.getD i5.toNat []) 1 fun l => slK l fun c es => (D F.aX7 [.leaf (.sl c es),.leaf (.int .i64 (IntKind.i64.wrap (i1 + 1)))] []).bind fun r => aM r.fst fun l => dG .i64 l fun n => hU D (pU c0 e0 n (IntKind.i64.wrap (i5 + 1)))) else none)) (some (.leaf (.int .i64 i1),[])) := by refine (aL (J := hU D) (fun _ _ => rfl) [[1,0,1,0]] _).trans ?_; generalize hU D = J; revert J; refine id ?_; intro J; kernel_rfl
theorem aGl : aT Tryz.prog D Hs bA F.aX3 [.leaf (.sl c0 e0),.leaf (.int .i64 i1)] [] = hU D (pU c0 e0 i1 0) := by refine (aF (J := hU D) (by kernel_rfl) (fun _ _ => rfl) [[1,0,1,0]]).trans ?_; generalize hU D = J; revert J; refine id ?_; intro J; kernel_rfl
end
def aFk := atA D F.aZh
theorem aJr (i0_0 : Int) (b0_1 : Bool) (s0_2 s0_3 : ByteArray) (c0_4 : Fl true) (e0_4 : LT) (c0_5 : Fl true) (e0_5 : LT) (c0_6 : Fl true) (e0_6 : LT) (c0_7 : Fl true) (e0_7 : LT) (c0_8 : Fl true) (e0_8 : LT) (b0_9 : Bool) (c0_10 : Fl true) (e0_10 : LT) : aT Tryz.prog D Hs bA F.aZh [.agg [.int .i64 i0_0,.bool b0_1,.str s0_2,.str s0_3,.sl c0_4 e0_4,.sl c0_5 e0_5,.sl c0_6 e0_6,.sl c0_7 e0_7,.sl c0_8 e0_8,.bool b0_9,.sl c0_10 e0_10]] [] = (D F.aXB [.leaf (.sl c0_4 e0_4)] []).bind fun r => kO r.fst fun c es => (D F.aW2 [.leaf (.sl c0_5 e0_5)] []).bind fun r => kO r.fst fun c_1 es_1 => (D F.aXP [.leaf (.sl c0_6 e0_6)] []).bind fun r => kO r.fst fun c_2 es_2 => (D F.aXl [.leaf (.sl c0_7 e0_7)] []).bind fun r => kO r.fst fun c_3 es_3 => (D F.aYj [.leaf (.sl c0_8 e0_8)] []).bind fun r => kO r.fst fun c_4 es_4 => (D F.aYB [.leaf (.sl c0_10 e0_10)] []).bind fun r => kO r.fst fun c_5 es_5 => some (.agg [.int .i64 i0_0,.bool b0_1,.str s0_2,.str s0_3,.sl c es,.sl c_1 es_1,.sl c_2 es_2,.sl c_3 es_3,.sl c_4 es_4,.bool b0_9,.sl c_5 es_5],[]) := by refine (aF (J := aFk D) (by kernel_rfl) (fun _ _ => rfl) []).trans ?_; generalize aFk D = J; revert J; refine id ?_; intro J; kernel_rfl
def aDl := atA D F.aY2
theorem aI4 (i0_0 : Int) (s0_1 : ByteArray) : aT Tryz.prog D Hs bA F.aY2 [.agg [.int .i64 i0_0,.str s0_1]] [] = some (.agg [.int .i64 i0_0,.str s0_1],[]) := by refine (aF (J := aDl D) (by kernel_rfl) (fun _ _ => rfl) []).trans ?_; generalize aDl D = J; revert J; refine id ?_; intro J; kernel_rfl
section
variable (c0 : Fl true) (e0 : LT) (n3 : Nat) (i4 : Int) (vx7 : List (SV true))
def jC := atA D F.aYW
def sH : PT := ([1,1,0,1,0],St.mk ([.leaf (.sl c0 e0),.any,.any,.bsl 7 5 0 n3,.leaf (.int .i64 i4)] ++ bN 18) (noB 7 ++ [some vx7] ++ noB 15))
theorem aAz : jC D (sH c0 e0 n3 i4 vx7) = aB (decide (i4 < (↑e0.length : Int))) (aA (decide (0 ≤ i4) && decide (i4 < (↑e0.length : Int)) && sized 5 e0) (gI (e0.getD i4.toNat []) fun e => atK e 0 fun l => cE l fun s => atK e 1 fun l => dG .i64 l fun n => atK e 2 fun l => cE l fun s_1 => atK e 3 fun l => slK l fun c es => atK e 4 fun l => slK l fun c_1 es_1 => (D F.aY9 [.agg [.str s,.int .i64 n,.str s_1,.sl c es,.sl c_1 es_1]] []).bind fun r => fA r.fst fun cs => aA (cs.length == 5) (atK cs 0 fun l => cE l fun s => atK cs 1 fun l => dG .i64 l fun n => atK cs 2 fun l => cE l fun s_2 => atK cs 3 fun l => slK l fun c es => atK cs 4 fun l => slK l fun c_2 es_2 => aA (decide (0 ≤ i4) && decide (i4 < (↑n3 : Int))) (aA (decide ((0 + i4.toNat) * 5 + 5 ≤ vx7.length)) (jC D (sH c0 e0 n3 (IntKind.i64.wrap (i4 + 1)) (gN vx7 ((0 + i4.toNat) * 5) [.leaf (.str s),.leaf (.int .i64 n),.leaf (.str s_2),.leaf (.sl c es),.leaf (.sl c_2 es_2)]))))))) (aA (decide (n3 * 5 ≤ vx7.length)) ((cM (List.take (n3 * 5) vx7)).bind fun l => some (.leaf (.sl aQ (kH 5 n3 l)),[]))) := by refine (aL (J := jC D) (fun _ _ => rfl) [[1,1,0,1,0]] _).trans ?_; generalize jC D = J; revert J; refine id ?_; intro J; kernel_rfl
theorem aIL : aT Tryz.prog D Hs bA F.aYW [.leaf (.sl c0 e0)] [] = aA ((↑e0.length : Int) == (↑e0.length : Int) && decide ((↑e0.length : Int).toNat * 88 ≤ aK) && decide ((↑e0.length : Int).toNat ≤ aK)) (jC D (sH c0 e0 (decide (0 ≤ (↑e0.length : Int)) && (↑e0.length : Int) == (↑e0.length : Int) && decide ((↑e0.length : Int).toNat * Tryz.prog.types[113].bytes ≤ aK) && decide ((↑e0.length : Int).toNat ≤ aK),(Tryz.prog.types[113].size,(↑e0.length : Int).toNat),List.map SV.leaf (List.replicate (↑e0.length : Int).toNat ((fun (x : List (aC true)) => .str (ByteArray.mk #[]) :: x) ((fun (x : List (aC true)) => .int .i64 0 :: x) ((fun (x : List (aC true)) => .str (ByteArray.mk #[]) :: x) ((fun (x : List (aC true)) => .sl (Fl.new true) [] :: x) ((fun (x : List (aC true)) => .sl (Fl.new true) [] :: x) [])))))).flatten).snd.fst.snd 0 (decide (0 ≤ (↑e0.length : Int)) && (↑e0.length : Int) == (↑e0.length : Int) && decide ((↑e0.length : Int).toNat * Tryz.prog.types[113].bytes ≤ aK) && decide ((↑e0.length : Int).toNat ≤ aK),(Tryz.prog.types[113].size,(↑e0.length : Int).toNat),List.map SV.leaf (List.replicate (↑e0.length : Int).toNat ((fun (x : List (aC true)) => .str (ByteArray.mk #[]) :: x) ((fun (x : List (aC true)) => .int .i64 0 :: x) ((fun (x : List (aC true)) => .str (ByteArray.mk #[]) :: x) ((fun (x : List (aC true)) => .sl (Fl.new true) [] :: x) ((fun (x : List (aC true)) => .sl (Fl.new true) [] :: x) [])))))).flatten).snd.snd)) := by refine (aF (J := jC D) (by kernel_rfl) (fun _ _ => rfl) [[1,1,0,1,0]]).trans ?_; generalize jC D = J; revert J; refine id ?_; intro J; kernel_rfl
end
section
variable (c0 : Fl true) (e0 : LT) (n3 : Nat) (i4 : Int) (vx7 : List (SV true))
def jD := atA D F.aYB
def sB : PT := ([1,1,0,1,0],St.mk ([.leaf (.sl c0 e0),.any,.any,.bsl 7 2 0 n3,.leaf (.int .i64 i4)] ++ bN 18) (noB 7 ++ [some vx7] ++ noB 15))
theorem aAN : jD D (sB c0 e0 n3 i4 vx7) = aB (decide (i4 < (↑e0.length : Int))) (aA (decide (0 ≤ i4) && decide (i4 < (↑e0.length : Int)) && sized 2 e0) (gI (e0.getD i4.toNat []) fun e => atK e 0 fun l => cE l fun s => atK e 1 fun l => slK l fun c es => (D F.aY4 [.agg [.str s,.sl c es]] []).bind fun r => fA r.fst fun cs => aA (cs.length == 2) (atK cs 0 fun l => cE l fun s => atK cs 1 fun l => slK l fun c es => aA (decide (0 ≤ i4) && decide (i4 < (↑n3 : Int))) (aA (decide ((0 + i4.toNat) * 2 + 2 ≤ vx7.length)) (jD D (sB c0 e0 n3 (IntKind.i64.wrap (i4 + 1)) (gN vx7 ((0 + i4.toNat) * 2) [.leaf (.str s),.leaf (.sl c es)]))))))) (aA (decide (n3 * 2 ≤ vx7.length)) ((cM (List.take (n3 * 2) vx7)).bind fun l => some (.leaf (.sl aQ (kH 2 n3 l)),[]))) := by refine (aL (J := jD D) (fun _ _ => rfl) [[1,1,0,1,0]] _).trans ?_; generalize jD D = J; revert J; refine id ?_; intro J; kernel_rfl
theorem aI6 : aT Tryz.prog D Hs bA F.aYB [.leaf (.sl c0 e0)] [] = aA ((↑e0.length : Int) == (↑e0.length : Int) && decide ((↑e0.length : Int).toNat * 40 ≤ aK) && decide ((↑e0.length : Int).toNat ≤ aK)) (jD D (sB c0 e0 (decide (0 ≤ (↑e0.length : Int)) && (↑e0.length : Int) == (↑e0.length : Int) && decide ((↑e0.length : Int).toNat * Tryz.prog.types[121].bytes ≤ aK) && decide ((↑e0.length : Int).toNat ≤ aK),(Tryz.prog.types[121].size,(↑e0.length : Int).toNat),List.map SV.leaf (List.replicate (↑e0.length : Int).toNat ((fun (x : List (aC true)) => .str (ByteArray.mk #[]) :: x) ((fun (x : List (aC true)) => .sl (Fl.new true) [] :: x) []))).flatten).snd.fst.snd 0 (decide (0 ≤ (↑e0.length : Int)) && (↑e0.length : Int) == (↑e0.length : Int) && decide ((↑e0.length : Int).toNat * Tryz.prog.types[121].bytes ≤ aK) && decide ((↑e0.length : Int).toNat ≤ aK),(Tryz.prog.types[121].size,(↑e0.length : Int).toNat),List.map SV.leaf (List.replicate (↑e0.length : Int).toNat ((fun (x : List (aC true)) => .str (ByteArray.mk #[]) :: x) ((fun (x : List (aC true)) => .sl (Fl.new true) [] :: x) []))).flatten).snd.snd)) := by refine (aF (J := jD D) (by kernel_rfl) (fun _ _ => rfl) [[1,1,0,1,0]]).trans ?_; generalize jD D = J; revert J; refine id ?_; intro J; kernel_rfl
end
section
variable (c0 : Fl true) (e0 : LT) (i1 i5 : Int)
def eZ := atA D F.aXb
def mV : PT := ([1,0,1,0],St.mk ([.leaf (.sl c0 e0),.leaf (.int .i64 i1),.any,.any,.any,.leaf (.int .i64 i5)] ++ bN 14) (noB 20))
theorem tS : eZ D (mV c0 e0 i1 i5) = aB (decide (i5 < (↑e0.length : Int))) ((D F.aXY [.leaf (.int .i64 i1)] []).bind fun r => aM r.fst fun l => cE l fun s => aA (decide (0 ≤ i5) && decide (i5 < (↑e0.length : Int)) && sized 1 e0) (if (c0.isSoft = true ∧ eG (e0.getD i5.toNat []) 0 = true) ∧ ((.leaf (.str s) : SV true)).plain = true ∧ dS Tryz.prog 9 = some 1 then eZ D (mV c0 e0 (IntKind.i64.wrap (i1 + 1)) (IntKind.i64.wrap (i5 + 1))) else none)) (some (.leaf (.int .i64 i1),[])) := by refine (aL (J := eZ D) (fun _ _ => rfl) [[1,0,1,0]] _).trans ?_; generalize eZ D = J; revert J; refine id ?_; intro J; kernel_rfl
theorem aCD : aT Tryz.prog D Hs bA F.aXb [.leaf (.sl c0 e0),.leaf (.int .i64 i1)] [] = eZ D (mV c0 e0 i1 0) := by refine (aF (J := eZ D) (by kernel_rfl) (fun _ _ => rfl) [[1,0,1,0]]).trans ?_; generalize eZ D = J; revert J; refine id ?_; intro J; kernel_rfl
end
section
variable (c0 : Fl true) (e0 : LT) (i1 i5 : Int)
def eJ := atA D F.aWP
def kX : PT := ([1,0,1,0],St.mk ([.leaf (.sl c0 e0),.leaf (.int .i64 i1),.any,.any,.any,.leaf (.int .i64 i5)] ++ bN 55) (noB 61))
theorem qY : eJ D (kX c0 e0 i1 i5) = aB (decide (i5 < (↑e0.length : Int))) ((D F.aXY [.leaf (.int .i64 i1)] []).bind fun r => aM r.fst fun l => cE l fun s => aA (decide (0 ≤ i5) && decide (i5 < (↑e0.length : Int)) && sized 6 e0) (if (c0.isSoft = true ∧ eG (e0.getD i5.toNat []) 0 = true) ∧ ((.leaf (.str s) : SV true)).plain = true ∧ dS Tryz.prog 9 = some 1 then (D F.aXY [.leaf (.int .i64 (IntKind.i64.wrap (i1 + 1)))] []).bind fun r => aM r.fst fun l => cE l fun s => aA (decide (0 ≤ i5) && decide (i5 < (↑e0.length : Int)) && sized 6 e0) (if (c0.isSoft = true ∧ eG (e0.getD i5.toNat []) 1 = true) ∧ ((.leaf (.str s) : SV true)).plain = true ∧ dS Tryz.prog 9 = some 1 then aA (decide (0 ≤ i5) && decide (i5 < (↑e0.length : Int)) && sized 6 e0) (atK (e0.getD i5.toNat []) 2 fun l => slK l fun c es => (D F.aXk [.leaf (.sl c es),.leaf (.int .i64 (IntKind.i64.wrap (IntKind.i64.wrap (i1 + 1) + 1)))] []).bind fun r => aM r.fst fun l => dG .i64 l fun n => (D F.aXY [.leaf (.int .i64 n)] []).bind fun r => aM r.fst fun l => cE l fun s => aA (decide (0 ≤ i5) && decide (i5 < (↑e0.length : Int)) && sized 6 e0) (if (c0.isSoft = true ∧ eG (e0.getD i5.toNat []) 3 = true) ∧ ((.leaf (.str s) : SV true)).plain = true ∧ dS Tryz.prog 9 = some 1 then (D F.aXY [.leaf (.int .i64 (IntKind.i64.wrap (n + 1)))] []).bind fun r => aM r.fst fun l => cE l fun s => aA (decide (0 ≤ i5) && decide (i5 < (↑e0.length : Int)) && sized 6 e0) (if (c0.isSoft = true ∧ eG (e0.getD i5.toNat []) 4 = true) ∧ ((.leaf (.str s) : SV true)).plain = true ∧ dS Tryz.prog 9 = some 1 then aA (decide (0 ≤ i5) && decide (i5 < (↑e0.length : Int)) && sized 6 e0) (atK (e0.getD i5.toNat []) 5 fun l => slK l fun c es => (D F.aX3 [.leaf (.sl c es),.leaf (.int .i64 (IntKind.i64.wrap (IntKind.i64.wrap (n + 1) + 1)))] []).bind fun r => aM r.fst fun l => dG .i64 l fun n => eJ D (kX c0 e0 n (IntKind.i64.wrap (i5 + 1)))) else none) else none)) else none) else none)) (some (.leaf (.int .i64 i1),[])) := by refine (aL (J := eJ D) (fun _ _ => rfl) [[1,0,1,0]] _).trans ?_; generalize eJ D = J; revert J; refine id ?_; intro J; kernel_rfl
theorem aBz : aT Tryz.prog D Hs bA F.aWP [.leaf (.sl c0 e0),.leaf (.int .i64 i1)] [] = eJ D (kX c0 e0 i1 0) := by refine (aF (J := eJ D) (by kernel_rfl) (fun _ _ => rfl) [[1,0,1,0]]).trans ?_; generalize eJ D = J; revert J; refine id ?_; intro J; kernel_rfl
end
section
variable (c0 : Fl true) (e0 : LT) (i1 i5 : Int)
def fQ := atA D F.aXk
def nL : PT := ([1,0,1,0],St.mk ([.leaf (.sl c0 e0),.leaf (.int .i64 i1),.any,.any,.any,.leaf (.int .i64 i5)] ++ bN 90) (noB 96))
theorem uX : fQ D (nL c0 e0 i1 i5) = aB (decide (i5 < (↑e0.length : Int))) ((D F.aXY [.leaf (.int .i64 i1)] []).bind fun r => aM r.fst fun l => cE l fun s => aA (decide (0 ≤ i5) && decide (i5 < (↑e0.length : Int)) && sized 10 e0) (if (c0.isSoft = true ∧ eG (e0.getD i5.toNat []) 0 = true) ∧ ((.leaf (.str s) : SV true)).plain = true ∧ dS Tryz.prog 9 = some 1 then (D F.aXY [.leaf (.int .i64 (IntKind.i64.wrap (i1 + 1)))] []).bind fun r => aM r.fst fun l => cE l fun s => aA (decide (0 ≤ i5) && decide (i5 < (↑e0.length : Int)) && sized 10 e0) (if (c0.isSoft = true ∧ eG (e0.getD i5.toNat []) 1 = true) ∧ ((.leaf (.str s) : SV true)).plain = true ∧ dS Tryz.prog 9 = some 1 then (D F.aXY [.leaf (.int .i64 (IntKind.i64.wrap (IntKind.i64.wrap (i1 + 1) + 1)))] []).bind fun r => aM r.fst fun l => cE l fun s => aA (decide (0 ≤ i5) && decide (i5 < (↑e0.length : Int)) && sized 10 e0) (if (c0.isSoft = true ∧ eG (e0.getD i5.toNat []) 2 = true) ∧ ((.leaf (.str s) : SV true)).plain = true ∧ dS Tryz.prog 9 = some 1 then (D F.aXY [.leaf (.int .i64 (IntKind.i64.wrap (IntKind.i64.wrap (IntKind.i64.wrap (i1 + 1) + 1) + 1)))] []).bind fun r => aM r.fst fun l => cE l fun s => aA (decide (0 ≤ i5) && decide (i5 < (↑e0.length : Int)) && sized 10 e0) (if (c0.isSoft = true ∧ eG (e0.getD i5.toNat []) 3 = true) ∧ ((.leaf (.str s) : SV true)).plain = true ∧ dS Tryz.prog 9 = some 1 then aA (decide (0 ≤ i5) && decide (i5 < (↑e0.length : Int)) && sized 10 e0) (if (c0.isSoft = true ∧ eG (e0.getD i5.toNat []) 4 = true) ∧ ((.leaf (.bool ((IntKind.i64.wrap (IntKind.i64.wrap (IntKind.i64.wrap (IntKind.i64.wrap (i1 + 1) + 1) + 1) + 1)).tmod 3 == 0)) : SV true)).plain = true ∧ dS Tryz.prog 4 = some 1 then aA (decide (0 ≤ i5) && decide (i5 < (↑e0.length : Int)) && sized 10 e0) (if (c0.isSoft = true ∧ eG (e0.getD i5.toNat []) 5 = true) ∧ ((.leaf (.int .i64 (IntKind.i64.wrap (IntKind.i64.wrap (IntKind.i64.wrap (IntKind.i64.wrap (IntKind.i64.wrap (i1 + 1) + 1) + 1) + 1) + 1))) : SV true)).plain = true ∧ dS Tryz.prog 3 = some 1 then (D F.aXY [.leaf (.int .i64 (IntKind.i64.wrap (IntKind.i64.wrap (IntKind.i64.wrap (IntKind.i64.wrap (IntKind.i64.wrap (IntKind.i64.wrap (i1 + 1) + 1) + 1) + 1) + 1) + 1)))] []).bind fun r => aM r.fst fun l => cE l fun s => aA (decide (0 ≤ i5) && decide (i5 < (↑e0.length : Int)) && sized 10 e0) (if (c0.isSoft = true ∧ eG (e0.getD i5.toNat []) 6 = true) ∧ ((.leaf (.str s) : SV true)).plain = true ∧ dS Tryz.prog 9 = some 1 then aA (decide (0 ≤ i5) && decide (i5 < (↑e0.length : Int)) && sized 10 e0) (atK (e0.getD i5.toNat []) 7 fun l => slK l fun c es => (D F.aXj [.leaf (.sl c es),.leaf (.int .i64 (IntKind.i64.wrap (IntKind.i64.wrap (IntKind.i64.wrap (IntKind.i64.wrap (IntKind.i64.wrap (IntKind.i64.wrap (IntKind.i64.wrap (i1 + 1) + 1) + 1) + 1) + 1) + 1) + 1)))] []).bind fun r => aM r.fst fun l => dG .i64 l fun n => aA (decide (0 ≤ i5) && decide (i5 < (↑e0.length : Int)) && sized 10 e0) (atK (e0.getD i5.toNat []) 8 fun l => slK l fun c es => (D F.aXb [.leaf (.sl c es),.leaf (.int .i64 n)] []).bind fun r => aM r.fst fun l => dG .i64 l fun n => aA (decide (0 ≤ i5) && decide (i5 < (↑e0.length : Int)) && sized 10 e0) (atK (e0.getD i5.toNat []) 9 fun l => slK l fun c es => (D F.aX3 [.leaf (.sl c es),.leaf (.int .i64 n)] []).bind fun r => aM r.fst fun l => dG .i64 l fun n => fQ D (nL c0 e0 n (IntKind.i64.wrap (i5 + 1)))))) else none) else none) else none) else none) else none) else none) else none)) (some (.leaf (.int .i64 i1),[])) := by refine (aL (J := fQ D) (fun _ _ => rfl) [[1,0,1,0]] _).trans ?_; generalize fQ D = J; revert J; refine id ?_; intro J; kernel_rfl
theorem aDH : aT Tryz.prog D Hs bA F.aXk [.leaf (.sl c0 e0),.leaf (.int .i64 i1)] [] = fQ D (nL c0 e0 i1 0) := by refine (aF (J := fQ D) (by kernel_rfl) (fun _ _ => rfl) [[1,0,1,0]]).trans ?_; generalize fQ D = J; revert J; refine id ?_; intro J; kernel_rfl
end
section
variable (c0 : Fl true) (e0 : LT) (i1 i5 : Int)
def eP := atA D F.aW0
def lY : PT := ([1,0,1,0],St.mk ([.leaf (.sl c0 e0),.leaf (.int .i64 i1),.any,.any,.any,.leaf (.int .i64 i5)] ++ bN 30) (noB 36))
theorem rY : eP D (lY c0 e0 i1 i5) = aB (decide (i5 < (↑e0.length : Int))) ((D F.aXY [.leaf (.int .i64 i1)] []).bind fun r => aM r.fst fun l => cE l fun s => aA (decide (0 ≤ i5) && decide (i5 < (↑e0.length : Int)) && sized 3 e0) (if (c0.isSoft = true ∧ eG (e0.getD i5.toNat []) 0 = true) ∧ ((.leaf (.str s) : SV true)).plain = true ∧ dS Tryz.prog 9 = some 1 then (D F.aXY [.leaf (.int .i64 (IntKind.i64.wrap (i1 + 1)))] []).bind fun r => aM r.fst fun l => cE l fun s => aA (decide (0 ≤ i5) && decide (i5 < (↑e0.length : Int)) && sized 3 e0) (if (c0.isSoft = true ∧ eG (e0.getD i5.toNat []) 1 = true) ∧ ((.leaf (.str s) : SV true)).plain = true ∧ dS Tryz.prog 9 = some 1 then aA (decide (0 ≤ i5) && decide (i5 < (↑e0.length : Int)) && sized 3 e0) (atK (e0.getD i5.toNat []) 2 fun l => slK l fun c es => (D F.aX3 [.leaf (.sl c es),.leaf (.int .i64 (IntKind.i64.wrap (IntKind.i64.wrap (i1 + 1) + 1)))] []).bind fun r => aM r.fst fun l => dG .i64 l fun n => eP D (lY c0 e0 n (IntKind.i64.wrap (i5 + 1)))) else none) else none)) (some (.leaf (.int .i64 i1),[])) := by refine (aL (J := eP D) (fun _ _ => rfl) [[1,0,1,0]] _).trans ?_; generalize eP D = J; revert J; refine id ?_; intro J; kernel_rfl
theorem aB5 : aT Tryz.prog D Hs bA F.aW0 [.leaf (.sl c0 e0),.leaf (.int .i64 i1)] [] = eP D (lY c0 e0 i1 0) := by refine (aF (J := eP D) (by kernel_rfl) (fun _ _ => rfl) [[1,0,1,0]]).trans ?_; generalize eP D = J; revert J; refine id ?_; intro J; kernel_rfl
end
section
variable (c0 : Fl true) (e0 : LT) (i1 i5 : Int)
def fM := atA D F.aXj
def nN : PT := ([1,0,1,0],St.mk ([.leaf (.sl c0 e0),.leaf (.int .i64 i1),.any,.any,.any,.leaf (.int .i64 i5)] ++ bN 36) (noB 42))
theorem uT : fM D (nN c0 e0 i1 i5) = aB (decide (i5 < (↑e0.length : Int))) (aA (decide (0 ≤ i5) && decide (i5 < (↑e0.length : Int)) && sized 4 e0) (if (c0.isSoft = true ∧ eG (e0.getD i5.toNat []) 0 = true) ∧ ((.leaf (.int .i64 i1) : SV true)).plain = true ∧ dS Tryz.prog 3 = some 1 then (D F.aXY [.leaf (.int .i64 (IntKind.i64.wrap (i1 + 1)))] []).bind fun r => aM r.fst fun l => cE l fun s => aA (decide (0 ≤ i5) && decide (i5 < (↑e0.length : Int)) && sized 4 e0) (if (c0.isSoft = true ∧ eG (e0.getD i5.toNat []) 1 = true) ∧ ((.leaf (.str s) : SV true)).plain = true ∧ dS Tryz.prog 9 = some 1 then aA (decide (0 ≤ i5) && decide (i5 < (↑e0.length : Int)) && sized 4 e0) (atK (e0.getD i5.toNat []) 2 fun l => slK l fun c es => (D F.aXj [.leaf (.sl c es),.leaf (.int .i64 (IntKind.i64.wrap (IntKind.i64.wrap (i1 + 1) + 1)))] []).bind fun r => aM r.fst fun l => dG .i64 l fun n => aA (decide (0 ≤ i5) && decide (i5 < (↑e0.length : Int)) && sized 4 e0) (atK (e0.getD i5.toNat []) 3 fun l => slK l fun c es => (D F.aXb [.leaf (.sl c es),.leaf (.int .i64 n)] []).bind fun r => aM r.fst fun l => dG .i64 l fun n => fM D (nN c0 e0 n (IntKind.i64.wrap (i5 + 1))))) else none) else none)) (some (.leaf (.int .i64 i1),[])) := by refine (aL (J := fM D) (fun _ _ => rfl) [[1,0,1,0]] _).trans ?_; generalize fM D = J; revert J; refine id ?_; intro J; kernel_rfl
theorem aD4 : aT Tryz.prog D Hs bA F.aXj [.leaf (.sl c0 e0),.leaf (.int .i64 i1)] [] = fM D (nN c0 e0 i1 0) := by refine (aF (J := fM D) (by kernel_rfl) (fun _ _ => rfl) [[1,0,1,0]]).trans ?_; generalize fM D = J; revert J; refine id ?_; intro J; kernel_rfl
end
section
variable (c0 : Fl true) (e0 : LT) (n3 : Nat) (i4 : Int) (vx7 : List (SV true))
def gD := atA D F.aXB
def oP : PT := ([1,1,0,1,0],St.mk ([.leaf (.sl c0 e0),.any,.any,.bsl 7 1 0 n3,.leaf (.int .i64 i4)] ++ bN 17) (noB 7 ++ [some vx7] ++ noB 14))
theorem vS : gD D (oP c0 e0 n3 i4 vx7) = aB (decide (i4 < (↑e0.length : Int))) (aA (decide (0 ≤ i4) && decide (i4 < (↑e0.length : Int)) && sized 1 e0) (atK (e0.getD i4.toNat []) 0 fun l => cE l fun s => aA (decide (0 ≤ i4) && decide (i4 < (↑n3 : Int))) (aA (decide ((0 + i4.toNat) * 1 + 1 ≤ vx7.length)) (gD D (oP c0 e0 n3 (IntKind.i64.wrap (i4 + 1)) (gN vx7 ((0 + i4.toNat) * 1) [.leaf (.str s)])))))) (aA (decide (n3 * 1 ≤ vx7.length)) ((cM (List.take (n3 * 1) vx7)).bind fun l => some (.leaf (.sl aQ (kH 1 n3 l)),[]))) := by refine (aL (J := gD D) (fun _ _ => rfl) [[1,1,0,1,0]] _).trans ?_; generalize gD D = J; revert J; refine id ?_; intro J; kernel_rfl
theorem aFu : aT Tryz.prog D Hs bA F.aXB [.leaf (.sl c0 e0)] [] = aA ((↑e0.length : Int) == (↑e0.length : Int) && decide ((↑e0.length : Int).toNat * 16 ≤ aK) && decide ((↑e0.length : Int).toNat ≤ aK)) (gD D (oP c0 e0 (decide (0 ≤ (↑e0.length : Int)) && (↑e0.length : Int) == (↑e0.length : Int) && decide ((↑e0.length : Int).toNat * Tryz.prog.types[9].bytes ≤ aK) && decide ((↑e0.length : Int).toNat ≤ aK),(Tryz.prog.types[9].size,(↑e0.length : Int).toNat),List.map SV.leaf (List.replicate (↑e0.length : Int).toNat ((fun (x : List (aC true)) => .str (ByteArray.mk #[]) :: x) [])).flatten).snd.fst.snd 0 (decide (0 ≤ (↑e0.length : Int)) && (↑e0.length : Int) == (↑e0.length : Int) && decide ((↑e0.length : Int).toNat * Tryz.prog.types[9].bytes ≤ aK) && decide ((↑e0.length : Int).toNat ≤ aK),(Tryz.prog.types[9].size,(↑e0.length : Int).toNat),List.map SV.leaf (List.replicate (↑e0.length : Int).toNat ((fun (x : List (aC true)) => .str (ByteArray.mk #[]) :: x) [])).flatten).snd.snd)) := by refine (aF (J := gD D) (by kernel_rfl) (fun _ _ => rfl) [[1,1,0,1,0]]).trans ?_; generalize gD D = J; revert J; refine id ?_; intro J; kernel_rfl
end
section
variable (c0 : Fl true) (e0 : LT) (n3 : Nat) (i4 : Int) (vx7 : List (SV true))
def eY := atA D F.aW2
def mX : PT := ([1,1,0,1,0],St.mk ([.leaf (.sl c0 e0),.any,.any,.bsl 7 6 0 n3,.leaf (.int .i64 i4)] ++ bN 18) (noB 7 ++ [some vx7] ++ noB 15))
theorem tP : eY D (mX c0 e0 n3 i4 vx7) = aB (decide (i4 < (↑e0.length : Int))) (aA (decide (0 ≤ i4) && decide (i4 < (↑e0.length : Int)) && sized 6 e0) (gI (e0.getD i4.toNat []) fun e => atK e 0 fun l => cE l fun s => atK e 1 fun l => cE l fun s_1 => atK e 2 fun l => slK l fun c es => atK e 3 fun l => cE l fun s_2 => atK e 4 fun l => cE l fun s_3 => atK e 5 fun l => slK l fun c_1 es_1 => (D F.aXd [.agg [.str s,.str s_1,.sl c es,.str s_2,.str s_3,.sl c_1 es_1]] []).bind fun r => fA r.fst fun cs => aA (cs.length == 6) (atK cs 0 fun l => cE l fun s => atK cs 1 fun l => cE l fun s_4 => atK cs 2 fun l => slK l fun c es => atK cs 3 fun l => cE l fun s_5 => atK cs 4 fun l => cE l fun s_6 => atK cs 5 fun l => slK l fun c_2 es_2 => aA (decide (0 ≤ i4) && decide (i4 < (↑n3 : Int))) (aA (decide ((0 + i4.toNat) * 6 + 6 ≤ vx7.length)) (eY D (mX c0 e0 n3 (IntKind.i64.wrap (i4 + 1)) (gN vx7 ((0 + i4.toNat) * 6) [.leaf (.str s),.leaf (.str s_4),.leaf (.sl c es),.leaf (.str s_5),.leaf (.str s_6),.leaf (.sl c_2 es_2)]))))))) (aA (decide (n3 * 6 ≤ vx7.length)) ((cM (List.take (n3 * 6) vx7)).bind fun l => some (.leaf (.sl aQ (kH 6 n3 l)),[]))) := by refine (aL (J := eY D) (fun _ _ => rfl) [[1,1,0,1,0]] _).trans ?_; generalize eY D = J; revert J; refine id ?_; intro J; kernel_rfl
theorem aCw : aT Tryz.prog D Hs bA F.aW2 [.leaf (.sl c0 e0)] [] = aA ((↑e0.length : Int) == (↑e0.length : Int) && decide ((↑e0.length : Int).toNat * 112 ≤ aK) && decide ((↑e0.length : Int).toNat ≤ aK)) (eY D (mX c0 e0 (decide (0 ≤ (↑e0.length : Int)) && (↑e0.length : Int) == (↑e0.length : Int) && decide ((↑e0.length : Int).toNat * Tryz.prog.types[65].bytes ≤ aK) && decide ((↑e0.length : Int).toNat ≤ aK),(Tryz.prog.types[65].size,(↑e0.length : Int).toNat),List.map SV.leaf (List.replicate (↑e0.length : Int).toNat ((fun (x : List (aC true)) => .str (ByteArray.mk #[]) :: x) ((fun (x : List (aC true)) => .str (ByteArray.mk #[]) :: x) ((fun (x : List (aC true)) => .sl (Fl.new true) [] :: x) ((fun (x : List (aC true)) => .str (ByteArray.mk #[]) :: x) ((fun (x : List (aC true)) => .str (ByteArray.mk #[]) :: x) ((fun (x : List (aC true)) => .sl (Fl.new true) [] :: x) []))))))).flatten).snd.fst.snd 0 (decide (0 ≤ (↑e0.length : Int)) && (↑e0.length : Int) == (↑e0.length : Int) && decide ((↑e0.length : Int).toNat * Tryz.prog.types[65].bytes ≤ aK) && decide ((↑e0.length : Int).toNat ≤ aK),(Tryz.prog.types[65].size,(↑e0.length : Int).toNat),List.map SV.leaf (List.replicate (↑e0.length : Int).toNat ((fun (x : List (aC true)) => .str (ByteArray.mk #[]) :: x) ((fun (x : List (aC true)) => .str (ByteArray.mk #[]) :: x) ((fun (x : List (aC true)) => .sl (Fl.new true) [] :: x) ((fun (x : List (aC true)) => .str (ByteArray.mk #[]) :: x) ((fun (x : List (aC true)) => .str (ByteArray.mk #[]) :: x) ((fun (x : List (aC true)) => .sl (Fl.new true) [] :: x) []))))))).flatten).snd.snd)) := by refine (aF (J := eY D) (by kernel_rfl) (fun _ _ => rfl) [[1,1,0,1,0]]).trans ?_; generalize eY D = J; revert J; refine id ?_; intro J; kernel_rfl
end
section
variable (c0 : Fl true) (e0 : LT) (n3 : Nat) (i4 : Int) (vx7 : List (SV true))
def hQ := atA D F.aXP
def pZ : PT := ([1,1,0,1,0],St.mk ([.leaf (.sl c0 e0),.any,.any,.bsl 7 10 0 n3,.leaf (.int .i64 i4)] ++ bN 18) (noB 7 ++ [some vx7] ++ noB 15))
theorem yF : hQ D (pZ c0 e0 n3 i4 vx7) = aB (decide (i4 < (↑e0.length : Int))) (aA (decide (0 ≤ i4) && decide (i4 < (↑e0.length : Int)) && sized 10 e0) (gI (e0.getD i4.toNat []) fun e => atK e 0 fun l => cE l fun s => atK e 1 fun l => cE l fun s_1 => atK e 2 fun l => cE l fun s_2 => atK e 3 fun l => cE l fun s_3 => atK e 4 fun l => dY l fun b => atK e 5 fun l => dG .i64 l fun n => atK e 6 fun l => cE l fun s_4 => atK e 7 fun l => slK l fun c es => atK e 8 fun l => slK l fun c_1 es_1 => atK e 9 fun l => slK l fun c_2 es_2 => (D F.aYo [.agg [.str s,.str s_1,.str s_2,.str s_3,.bool b,.int .i64 n,.str s_4,.sl c es,.sl c_1 es_1,.sl c_2 es_2]] []).bind fun r => fA r.fst fun cs => aA (cs.length == 10) (atK cs 0 fun l => cE l fun s => atK cs 1 fun l => cE l fun s_5 => atK cs 2 fun l => cE l fun s_6 => atK cs 3 fun l => cE l fun s_7 => atK cs 4 fun l => dY l fun b => atK cs 5 fun l => dG .i64 l fun n => atK cs 6 fun l => cE l fun s_8 => atK cs 7 fun l => slK l fun c es => atK cs 8 fun l => slK l fun c_3 es_3 => atK cs 9 fun l => slK l fun c_4 es_4 => aA (decide (0 ≤ i4) && decide (i4 < (↑n3 : Int))) (aA (decide ((0 + i4.toNat) * 10 + 10 ≤ vx7.length)) (hQ D (pZ c0 e0 n3 (IntKind.i64.wrap (i4 + 1)) (gN vx7 ((0 + i4.toNat) * 10) [.leaf (.str s),.leaf (.str s_5),.leaf (.str s_6),.leaf (.str s_7),.leaf (.bool b),.leaf (.int .i64 n),.leaf (.str s_8),.leaf (.sl c es),.leaf (.sl c_3 es_3),.leaf (.sl c_4 es_4)]))))))) (aA (decide (n3 * 10 ≤ vx7.length)) ((cM (List.take (n3 * 10) vx7)).bind fun l => some (.leaf (.sl aQ (kH 10 n3 l)),[]))) := by refine (aL (J := hQ D) (fun _ _ => rfl) [[1,1,0,1,0]] _).trans ?_; generalize hQ D = J; revert J; refine id ?_; intro J; kernel_rfl
theorem aGk : aT Tryz.prog D Hs bA F.aXP [.leaf (.sl c0 e0)] [] = aA ((↑e0.length : Int) == (↑e0.length : Int) && decide ((↑e0.length : Int).toNat * 168 ≤ aK) && decide ((↑e0.length : Int).toNat ≤ aK)) (hQ D (pZ c0 e0 (decide (0 ≤ (↑e0.length : Int)) && (↑e0.length : Int) == (↑e0.length : Int) && decide ((↑e0.length : Int).toNat * Tryz.prog.types[118].bytes ≤ aK) && decide ((↑e0.length : Int).toNat ≤ aK),(Tryz.prog.types[118].size,(↑e0.length : Int).toNat),List.map SV.leaf (List.replicate (↑e0.length : Int).toNat ((fun (x : List (aC true)) => .str (ByteArray.mk #[]) :: x) ((fun (x : List (aC true)) => .str (ByteArray.mk #[]) :: x) ((fun (x : List (aC true)) => .str (ByteArray.mk #[]) :: x) ((fun (x : List (aC true)) => .str (ByteArray.mk #[]) :: x) ((fun (x : List (aC true)) => .bool false :: x) ((fun (x : List (aC true)) => .int .i64 0 :: x) ((fun (x : List (aC true)) => .str (ByteArray.mk #[]) :: x) ((fun (x : List (aC true)) => .sl (Fl.new true) [] :: x) ((fun (x : List (aC true)) => .sl (Fl.new true) [] :: x) ((fun (x : List (aC true)) => .sl (Fl.new true) [] :: x) []))))))))))).flatten).snd.fst.snd 0 (decide (0 ≤ (↑e0.length : Int)) && (↑e0.length : Int) == (↑e0.length : Int) && decide ((↑e0.length : Int).toNat * Tryz.prog.types[118].bytes ≤ aK) && decide ((↑e0.length : Int).toNat ≤ aK),(Tryz.prog.types[118].size,(↑e0.length : Int).toNat),List.map SV.leaf (List.replicate (↑e0.length : Int).toNat ((fun (x : List (aC true)) => .str (ByteArray.mk #[]) :: x) ((fun (x : List (aC true)) => .str (ByteArray.mk #[]) :: x) ((fun (x : List (aC true)) => .str (ByteArray.mk #[]) :: x) ((fun (x : List (aC true)) => .str (ByteArray.mk #[]) :: x) ((fun (x : List (aC true)) => .bool false :: x) ((fun (x : List (aC true)) => .int .i64 0 :: x) ((fun (x : List (aC true)) => .str (ByteArray.mk #[]) :: x) ((fun (x : List (aC true)) => .sl (Fl.new true) [] :: x) ((fun (x : List (aC true)) => .sl (Fl.new true) [] :: x) ((fun (x : List (aC true)) => .sl (Fl.new true) [] :: x) []))))))))))).flatten).snd.snd)) := by refine (aF (J := hQ D) (by kernel_rfl) (fun _ _ => rfl) [[1,1,0,1,0]]).trans ?_; generalize hQ D = J; revert J; refine id ?_; intro J; kernel_rfl
end
section
variable (c0 : Fl true) (e0 : LT) (n3 : Nat) (i4 : Int) (vx7 : List (SV true))
def fN := atA D F.aXl
def nO : PT := ([1,1,0,1,0],St.mk ([.leaf (.sl c0 e0),.any,.any,.bsl 7 3 0 n3,.leaf (.int .i64 i4)] ++ bN 18) (noB 7 ++ [some vx7] ++ noB 15))
theorem vI : fN D (nO c0 e0 n3 i4 vx7) = aB (decide (i4 < (↑e0.length : Int))) (aA (decide (0 ≤ i4) && decide (i4 < (↑e0.length : Int)) && sized 3 e0) (gI (e0.getD i4.toNat []) fun e => atK e 0 fun l => cE l fun s => atK e 1 fun l => cE l fun s_1 => atK e 2 fun l => slK l fun c es => (D F.aXE [.agg [.str s,.str s_1,.sl c es]] []).bind fun r => fA r.fst fun cs => aA (cs.length == 3) (atK cs 0 fun l => cE l fun s => atK cs 1 fun l => cE l fun s_2 => atK cs 2 fun l => slK l fun c es => aA (decide (0 ≤ i4) && decide (i4 < (↑n3 : Int))) (aA (decide ((0 + i4.toNat) * 3 + 3 ≤ vx7.length)) (fN D (nO c0 e0 n3 (IntKind.i64.wrap (i4 + 1)) (gN vx7 ((0 + i4.toNat) * 3) [.leaf (.str s),.leaf (.str s_2),.leaf (.sl c es)]))))))) (aA (decide (n3 * 3 ≤ vx7.length)) ((cM (List.take (n3 * 3) vx7)).bind fun l => some (.leaf (.sl aQ (kH 3 n3 l)),[]))) := by refine (aL (J := fN D) (fun _ _ => rfl) [[1,1,0,1,0]] _).trans ?_; generalize fN D = J; revert J; refine id ?_; intro J; kernel_rfl
theorem aDP : aT Tryz.prog D Hs bA F.aXl [.leaf (.sl c0 e0)] [] = aA ((↑e0.length : Int) == (↑e0.length : Int) && decide ((↑e0.length : Int).toNat * 56 ≤ aK) && decide ((↑e0.length : Int).toNat ≤ aK)) (fN D (nO c0 e0 (decide (0 ≤ (↑e0.length : Int)) && (↑e0.length : Int) == (↑e0.length : Int) && decide ((↑e0.length : Int).toNat * Tryz.prog.types[163].bytes ≤ aK) && decide ((↑e0.length : Int).toNat ≤ aK),(Tryz.prog.types[163].size,(↑e0.length : Int).toNat),List.map SV.leaf (List.replicate (↑e0.length : Int).toNat ((fun (x : List (aC true)) => .str (ByteArray.mk #[]) :: x) ((fun (x : List (aC true)) => .str (ByteArray.mk #[]) :: x) ((fun (x : List (aC true)) => .sl (Fl.new true) [] :: x) [])))).flatten).snd.fst.snd 0 (decide (0 ≤ (↑e0.length : Int)) && (↑e0.length : Int) == (↑e0.length : Int) && decide ((↑e0.length : Int).toNat * Tryz.prog.types[163].bytes ≤ aK) && decide ((↑e0.length : Int).toNat ≤ aK),(Tryz.prog.types[163].size,(↑e0.length : Int).toNat),List.map SV.leaf (List.replicate (↑e0.length : Int).toNat ((fun (x : List (aC true)) => .str (ByteArray.mk #[]) :: x) ((fun (x : List (aC true)) => .str (ByteArray.mk #[]) :: x) ((fun (x : List (aC true)) => .sl (Fl.new true) [] :: x) [])))).flatten).snd.snd)) := by refine (aF (J := fN D) (by kernel_rfl) (fun _ _ => rfl) [[1,1,0,1,0]]).trans ?_; generalize fN D = J; revert J; refine id ?_; intro J; kernel_rfl
end
def aFI := atA D F.aY9
theorem aJz (s0_0 : ByteArray) (i0_1 : Int) (s0_2 : ByteArray) (c0_3 : Fl true) (e0_3 : LT) (c0_4 : Fl true) (e0_4 : LT) : aT Tryz.prog D Hs bA F.aY9 [.agg [.str s0_0,.int .i64 i0_1,.str s0_2,.sl c0_3 e0_3,.sl c0_4 e0_4]] [] = (D F.aYk [.agg [.int .i64 i0_1,.str s0_2,.sl c0_3 e0_3,.sl c0_4 e0_4]] []).bind fun r => fA r.fst fun cs => aA (cs.length == 4) (atK cs 0 fun l => dG .i64 l fun n => atK cs 1 fun l => cE l fun s => atK cs 2 fun l => slK l fun c es => atK cs 3 fun l => slK l fun c_1 es_1 => some (.agg [.str s0_0,.int .i64 n,.str s,.sl c es,.sl c_1 es_1],[])) := by refine (aF (J := aFI D) (by kernel_rfl) (fun _ _ => rfl) []).trans ?_; generalize aFI D = J; revert J; refine id ?_; intro J; kernel_rfl
def aFn := atA D F.aY4
theorem aKb (s0_0 : ByteArray) (c0_1 : Fl true) (e0_1 : LT) : aT Tryz.prog D Hs bA F.aY4 [.agg [.str s0_0,.sl c0_1 e0_1]] [] = (D F.aYW [.leaf (.sl c0_1 e0_1)] []).bind fun r => kO r.fst fun c es => some (.agg [.str s0_0,.sl c es],[]) := by refine (aF (J := aFn D) (by kernel_rfl) (fun _ _ => rfl) []).trans ?_; generalize aFn D = J; revert J; refine id ?_; intro J; kernel_rfl
def zO := atA D F.aXd
theorem aDR (s0_0 s0_1 : ByteArray) (c0_2 : Fl true) (e0_2 : LT) (s0_3 s0_4 : ByteArray) (c0_5 : Fl true) (e0_5 : LT) : aT Tryz.prog D Hs bA F.aXd [.agg [.str s0_0,.str s0_1,.sl c0_2 e0_2,.str s0_3,.str s0_4,.sl c0_5 e0_5]] [] = (D F.aXP [.leaf (.sl c0_2 e0_2)] []).bind fun r => kO r.fst fun c es => (D F.aYv [.agg [.str s0_3,.str s0_4]] []).bind fun r => fA r.fst fun cs => aA (cs.length == 2) (atK cs 0 fun l => cE l fun s => atK cs 1 fun l => cE l fun s_1 => (D F.aYB [.leaf (.sl c0_5 e0_5)] []).bind fun r => kO r.fst fun c_1 es_1 => some (.agg [.str s0_0,.str s0_1,.sl c es,.str s,.str s_1,.sl c_1 es_1],[])) := by refine (aF (J := zO D) (by kernel_rfl) (fun _ _ => rfl) []).trans ?_; generalize zO D = J; revert J; refine id ?_; intro J; kernel_rfl
def aBJ := atA D F.aYo
theorem aHp (s0_0 s0_1 s0_2 s0_3 : ByteArray) (b0_4 : Bool) (i0_5 : Int) (s0_6 : ByteArray) (c0_7 : Fl true) (e0_7 : LT) (c0_8 : Fl true) (e0_8 : LT) (c0_9 : Fl true) (e0_9 : LT) : aT Tryz.prog D Hs bA F.aYo [.agg [.str s0_0,.str s0_1,.str s0_2,.str s0_3,.bool b0_4,.int .i64 i0_5,.str s0_6,.sl c0_7 e0_7,.sl c0_8 e0_8,.sl c0_9 e0_9]] [] = (D F.aYv [.agg [.str s0_2,.str s0_3]] []).bind fun r => fA r.fst fun cs => aA (cs.length == 2) (atK cs 0 fun l => cE l fun s => atK cs 1 fun l => cE l fun s_1 => (D F.aYk [.agg [.int .i64 i0_5,.str s0_6,.sl c0_7 e0_7,.sl c0_8 e0_8]] []).bind fun r => fA r.fst fun cs => aA (cs.length == 4) (atK cs 0 fun l => dG .i64 l fun n => atK cs 1 fun l => cE l fun s_2 => atK cs 2 fun l => slK l fun c es => atK cs 3 fun l => slK l fun c_1 es_1 => (D F.aYB [.leaf (.sl c0_9 e0_9)] []).bind fun r => kO r.fst fun c_2 es_2 => some (.agg [.str s0_0,.str s0_1,.str s,.str s_1,.bool b0_4,.int .i64 n,.str s_2,.sl c es,.sl c_1 es_1,.sl c_2 es_2],[]))) := by refine (aF (J := aBJ D) (by kernel_rfl) (fun _ _ => rfl) []).trans ?_; generalize aBJ D = J; revert J; refine id ?_; intro J; kernel_rfl
def aAk := atA D F.aXE
theorem aEe (s0_0 s0_1 : ByteArray) (c0_2 : Fl true) (e0_2 : LT) : aT Tryz.prog D Hs bA F.aXE [.agg [.str s0_0,.str s0_1,.sl c0_2 e0_2]] [] = (D F.aYB [.leaf (.sl c0_2 e0_2)] []).bind fun r => kO r.fst fun c es => some (.agg [.str s0_0,.str s0_1,.sl c es],[]) := by refine (aF (J := aAk D) (by kernel_rfl) (fun _ _ => rfl) []).trans ?_; generalize aAk D = J; revert J; refine id ?_; intro J; kernel_rfl
def aCh := atA D F.aYk
theorem aHy (i0_0 : Int) (s0_1 : ByteArray) (c0_2 : Fl true) (e0_2 : LT) (c0_3 : Fl true) (e0_3 : LT) : aT Tryz.prog D Hs bA F.aYk [.agg [.int .i64 i0_0,.str s0_1,.sl c0_2 e0_2,.sl c0_3 e0_3]] [] = (D F.aXZ [.leaf (.sl c0_2 e0_2)] []).bind fun r => kO r.fst fun c es => (D F.aXB [.leaf (.sl c0_3 e0_3)] []).bind fun r => kO r.fst fun c_1 es_1 => some (.agg [.int .i64 i0_0,.str s0_1,.sl c es,.sl c_1 es_1],[]) := by refine (aF (J := aCh D) (by kernel_rfl) (fun _ _ => rfl) []).trans ?_; generalize aCh D = J; revert J; refine id ?_; intro J; kernel_rfl
def aDC := atA D F.aYv
theorem aJb (s0_0 s0_1 : ByteArray) : aT Tryz.prog D Hs bA F.aYv [.agg [.str s0_0,.str s0_1]] [] = some (.agg [.str s0_0,.str s0_1],[]) := by refine (aF (J := aDC D) (by kernel_rfl) (fun _ _ => rfl) []).trans ?_; generalize aDC D = J; revert J; refine id ?_; intro J; kernel_rfl
section
variable (c0 : Fl true) (e0 : LT) (n3 : Nat) (i4 : Int) (vx7 : List (SV true))
def gW := atA D F.aXZ
def pY : PT := ([1,1,0,1,0],St.mk ([.leaf (.sl c0 e0),.any,.any,.bsl 7 4 0 n3,.leaf (.int .i64 i4)] ++ bN 18) (noB 7 ++ [some vx7] ++ noB 15))
theorem yA : gW D (pY c0 e0 n3 i4 vx7) = aB (decide (i4 < (↑e0.length : Int))) (aA (decide (0 ≤ i4) && decide (i4 < (↑e0.length : Int)) && sized 4 e0) (gI (e0.getD i4.toNat []) fun e => atK e 0 fun l => dG .i64 l fun n => atK e 1 fun l => cE l fun s => atK e 2 fun l => slK l fun c es => atK e 3 fun l => slK l fun c_1 es_1 => (D F.aYk [.agg [.int .i64 n,.str s,.sl c es,.sl c_1 es_1]] []).bind fun r => fA r.fst fun cs => aA (cs.length == 4) (atK cs 0 fun l => dG .i64 l fun n => atK cs 1 fun l => cE l fun s => atK cs 2 fun l => slK l fun c es => atK cs 3 fun l => slK l fun c_2 es_2 => aA (decide (0 ≤ i4) && decide (i4 < (↑n3 : Int))) (aA (decide ((0 + i4.toNat) * 4 + 4 ≤ vx7.length)) (gW D (pY c0 e0 n3 (IntKind.i64.wrap (i4 + 1)) (gN vx7 ((0 + i4.toNat) * 4) [.leaf (.int .i64 n),.leaf (.str s),.leaf (.sl c es),.leaf (.sl c_2 es_2)]))))))) (aA (decide (n3 * 4 ≤ vx7.length)) ((cM (List.take (n3 * 4) vx7)).bind fun l => some (.leaf (.sl aQ (kH 4 n3 l)),[]))) := by refine (aL (J := gW D) (fun _ _ => rfl) [[1,1,0,1,0]] _).trans ?_; generalize gW D = J; revert J; refine id ?_; intro J; kernel_rfl
theorem aF8 : aT Tryz.prog D Hs bA F.aXZ [.leaf (.sl c0 e0)] [] = aA ((↑e0.length : Int) == (↑e0.length : Int) && decide ((↑e0.length : Int).toNat * 72 ≤ aK) && decide ((↑e0.length : Int).toNat ≤ aK)) (gW D (pY c0 e0 (decide (0 ≤ (↑e0.length : Int)) && (↑e0.length : Int) == (↑e0.length : Int) && decide ((↑e0.length : Int).toNat * Tryz.prog.types[111].bytes ≤ aK) && decide ((↑e0.length : Int).toNat ≤ aK),(Tryz.prog.types[111].size,(↑e0.length : Int).toNat),List.map SV.leaf (List.replicate (↑e0.length : Int).toNat ((fun (x : List (aC true)) => .int .i64 0 :: x) ((fun (x : List (aC true)) => .str (ByteArray.mk #[]) :: x) ((fun (x : List (aC true)) => .sl (Fl.new true) [] :: x) ((fun (x : List (aC true)) => .sl (Fl.new true) [] :: x) []))))).flatten).snd.fst.snd 0 (decide (0 ≤ (↑e0.length : Int)) && (↑e0.length : Int) == (↑e0.length : Int) && decide ((↑e0.length : Int).toNat * Tryz.prog.types[111].bytes ≤ aK) && decide ((↑e0.length : Int).toNat ≤ aK),(Tryz.prog.types[111].size,(↑e0.length : Int).toNat),List.map SV.leaf (List.replicate (↑e0.length : Int).toNat ((fun (x : List (aC true)) => .int .i64 0 :: x) ((fun (x : List (aC true)) => .str (ByteArray.mk #[]) :: x) ((fun (x : List (aC true)) => .sl (Fl.new true) [] :: x) ((fun (x : List (aC true)) => .sl (Fl.new true) [] :: x) []))))).flatten).snd.snd)) := by refine (aF (J := gW D) (by kernel_rfl) (fun _ _ => rfl) [[1,1,0,1,0]]).trans ?_; generalize gW D = J; revert J; refine id ?_; intro J; kernel_rfl
end
end
end Go.Vs
end
