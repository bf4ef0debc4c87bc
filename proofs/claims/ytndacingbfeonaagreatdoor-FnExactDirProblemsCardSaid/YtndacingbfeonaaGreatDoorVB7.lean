/- What the program's functions compute, read off their text by the shadow runner (ILw0, IPI, IF32, ITold, VsBound, ITa, ITs, ITe); no condition. -/
import Derived.Shelf.Strconv.ParseIntPublic10
import Derived.Test.YtndacingbfeonaaGreatDoorChecked
import Derived.WalkKit
import Derived.Lib.Walk
import Derived.BigCall
import Derived.BigGuard
import Derived.Below
import Derived.Lib.AtoiErrMem
import Derived.Test.YtndacingbfeonaaGreatDoorVB6
section
open Go Go.Vs Go.Proofs
set_option linter.unusedVariables false
set_option linter.unusedSimpArgs false
namespace Go.Vs
/-! ### Whole numbers, as the program asks -/
section
variable {D : Oracle false}
/-- What is read off a function's text is told. -/
def Closed (D : Oracle false) (l : List FuncId) : Prop := ∀ f ∈ l, ∀ (a : List (SV false)) (b : List (List (SV false))) (r : SV false × List (List (SV false))), run2V Tryz.prog D Hs limR f a b = some r → D f a b = some r
theorem c_HasPrefix (hD : Closed D [F.internal_stringslite_HasPrefix]) {s : ByteArray} {c : UInt8} : D F.internal_stringslite_HasPrefix [.leaf (.str s), .leaf (.str ⟨#[c]⟩)] [] = some (vbool (decide (s.data.toList.head? = some c)), []) := by
  refine hD _ (by simp) _ _ _ ?_
  have hn := byteN s
  have h1 : (ByteArray.mk #[c]).size = 1 := rfl
  rw [run_internal_stringslite_HasPrefix, h1]
  cases hl : s.data.toList with
  | nil =>
    rw [hl] at hn
    have h0 : ¬ ((s.size : Nat) : Int) ≥ ((1 : Nat) : Int) := by simp at hn; omega
    simp -implicitDefEqProofs only [h0, decide_false, bT, branch_false]
    rfl
  | cons x r =>
    rw [hl] at hn
    have h0 : ((s.size : Nat) : Int) ≥ ((1 : Nat) : Int) := by simp at hn; omega
    have h2 : 1 ≤ s.size := by omega
    have he : (s.extract 0 1).toList = [x] := by rw [byteT, extract_data, hl]; simp
    have h3 : (ByteArray.mk #[c]).toList = [c] := by rw [byteT]
    simp -implicitDefEqProofs only [h0, decide_true, bT, branch_true, Int.toNat_natCast, h2, guarded_true, he, h3]
    have : (([x] : List UInt8) == [c]) = decide ((x :: r).head? = some c) := by
      by_cases hx : x = c <;> simp [hx]
    rw [this]
theorem c_TrimPrefix (hD : Closed D [F.internal_stringslite_HasPrefix, F.internal_stringslite_TrimPrefix, F.strings_TrimPrefix]) {s : ByteArray} {c : UInt8} : D F.strings_TrimPrefix [.leaf (.str s), .leaf (.str ⟨#[c]⟩)] [] = some (.leaf (.str (trimB s c)), []) := by
  have key : D F.internal_stringslite_TrimPrefix [.leaf (.str s), .leaf (.str ⟨#[c]⟩)] [] = some (.leaf (.str (trimB s c)), []) := by
    refine hD _ (by simp) _ _ _ ?_
    have hn := byteN s
    rw [run_internal_stringslite_TrimPrefix, c_HasPrefix (fun f hf => hD f (by simp at hf; simp [hf])), rBool_eq]
    unfold trimB
    by_cases h : s.data.toList.head? = some c
    · have h2 : 1 ≤ s.size := by
        cases hl : s.data.toList with
        | nil => simp [hl] at h
        | cons x r => rw [hl] at hn; simp at hn; omega
      have h1 : (ByteArray.mk #[c]).size = 1 := rfl
      simp -implicitDefEqProofs only [h, decide_true, branch_true, if_true, h1, Int.toNat_natCast, h2, Nat.le_refl, Bool.and_self, guarded_true]
    · simp -implicitDefEqProofs only [h, decide_false, branch_false, if_false]
  refine hD _ (by simp) _ _ _ ?_
  rw [run_strings_TrimPrefix, key, rStr_eq]
theorem c_figures (hD : Closed D [F.impl_isFigure, F.impl_figures]) {s : ByteArray} (hs : s.size ≤ maxLen) : D F.impl_figures [.leaf (.str s)] [] = some (vbool (s.data.toList.all isFig && decide (s.data.toList ≠ [])), []) := by
  have fig : ∀ b : UInt8, D F.impl_isFigure [.leaf (.int .u8 (b.toNat : Int))] [] = some (vbool (isFig b), []) := fun b => by
    refine hD _ (by simp) _ _ _ ?_
    rw [run_impl_isFigure]
    unfold isFig
    by_cases h : 48 ≤ b.toNat
    · have h1 : ((b.toNat : Nat) : Int) ≥ 48 := by omega
      have h2 : (((b.toNat : Nat) : Int) ≤ 57) = (b.toNat ≤ 57) := by simp; omega
      simp -implicitDefEqProofs only [h, h1, h2, decide_true, bT, branch_true, Bool.true_and]
    · have h1 : ¬ ((b.toNat : Nat) : Int) ≥ 48 := by omega
      simp -implicitDefEqProofs only [h, h1, decide_false, bT, branch_false, Bool.false_and]
  refine hD _ (by simp) _ _ _ ?_
  have hn := byteN s
  rw [run_impl_figures]
  have := byte_all (l := s.data.toList) (p := isFig) (A := fun i => impl_figures_A D (impl_figures_0 s s.size i)) (yes := some (vbool (decide (s.data.toList ≠ [])), [])) (no := some (vbool false, [])) (by
    rw [impl_figures_0_eq, hn]
    simp -implicitDefEqProofs only [Int.lt_irrefl, decide_false, branch_false, byteT]
    have : (!s.data.toList == (ByteArray.mk #[]).data.toList) = decide (s.data.toList ≠ []) := by
      cases s.data.toList <;> simp
    rw [this]) (fun i hi => by
    rw [impl_figures_0_eq]
    have hi' : i < s.size := by omega
    have hg : s.data.toList.getD i 0 = s.data.toList[i] := by rw [List.getD_eq_getElem?_getD, List.getElem?_eq_getElem hi]; rfl
    have hw := wrap_upL (Nat.lt_of_lt_of_le hi' hs)
    simp -implicitDefEqProofs only [Int.ofNat_lt, decide_true, branch_true, Int.natCast_nonneg, Bool.and_true, Int.toNat_natCast, guarded_true, hi', hg, fig, rBool_eq, hw])
  rw [this]
  cases s.data.toList.all isFig <;> simp
theorem c_IntOk (hD : Closed D [F.internal_stringslite_HasPrefix, F.internal_stringslite_TrimPrefix, F.strings_TrimPrefix, F.impl_isFigure, F.impl_figures, F.impl_IntOk]) {s : ByteArray} (hs : s.size ≤ maxLen) : D F.impl_IntOk [.leaf (.str s)] [] = some (vbool (intB s.data.toList), []) := by
  refine hD _ (by simp) _ _ _ ?_
  have hn := byteN s
  have ht := trim_digs s
  have htn := byteN (trimB s 45)
  have hle : (trimB s 45).size ≤ maxLen := by
    have : (trimB s 45).size ≤ s.size := by
      unfold trimB
      split
      · rw [ByteArray.size_extract]; omega
      · exact Nat.le_refl _
    omega
  rw [run_impl_IntOk, c_TrimPrefix (fun f hf => hD f (by simp at hf; rcases hf with h | h | h <;> simp [h])), rStr_eq, c_figures (fun f hf => hD f (by simp at hf; rcases hf with h | h <;> simp [h])) hle, rBool_eq]
  unfold intB
  rw [hn, ← ht]
  by_cases h40 : s.size ≤ 40
  · have h40' : ((s.size : Nat) : Int) ≤ 40 := by omega
    simp -implicitDefEqProofs only [h40, h40', decide_true, bT, branch_true, Bool.true_and]
    cases hd : (trimB s 45).data.toList with
    | nil => simp
    | cons x r =>
      rw [hd] at htn
      have hpos : (0 : Int) < ((trimB s 45).size : Int) := by simp at htn; omega
      simp -implicitDefEqProofs only [ne_eq, List.cons_ne_nil, not_false_eq_true, decide_true, Bool.and_true, Bool.true_and]
      cases (x :: r).all isFig with
      | false => simp -implicitDefEqProofs only [branch_false, Bool.false_and]
      | true =>
        simp -implicitDefEqProofs only [branch_true, Bool.true_and, byteT, hd, hpos, decide_true, guarded_true, bF, branch_not]
        cases r with
        | nil =>
          by_cases hx : x = 48
          · subst hx; simp
          · have h1 : (([x] : List UInt8) == (ByteArray.mk #[48]).data.toList) = false := by simp [hx]
            have h2 : ¬ x.toNat = 48 := fun h => hx (by rw [← UInt8.toNat_inj]; simpa using h)
            simp [h1]
            omega
        | cons y r =>
          have h1 : ((x :: y :: r : List UInt8) == (ByteArray.mk #[48]).data.toList) = false := by simp
          simp -implicitDefEqProofs only [h1, branch_false]
          simp
          congr 1
          rw [Bool.eq_iff_iff]
          simp
          omega
  · have h40' : ¬ ((s.size : Nat) : Int) ≤ 40 := by omega
    simp -implicitDefEqProofs only [h40, h40', decide_false, bT, branch_false, Bool.false_and]

end
end Go.Vs
end
section
/- strconv.ParseInt at this program's numbers (laid by the kit's tool). -/
namespace Go.Proofs
open Go.Shelf
def Tryz.laysC174_ren : Go.Shelf.Ren := ⟨fun | 174 => 226 | 247 => 233 | 245 => 234 | 287 => 238 | 279 => 239 | 280 => 240 | 281 => 241 | 282 => 242 | 321 => 245 | 322 => 246 | 316 => 247 | 171 => 249 | 205 => 248 | 243 => 250 | 246 => 251 | 283 => 252 | 284 => 253 | 285 => 254 | 286 => 255 | 129 => 257 | 317 => 256 | 318 => 258 | 319 => 259 | 320 => 260 | 337 => 261 | 338 => 262 | n => n, fun | 9 => 9 | 3 => 3 | 2 => 2 | 75 => 260 | 85 => 261 | 4 => 4 | 167 => 269 | 5 => 5 | 53 => 270 | 175 => 271 | 46 => 273 | 168 => 274 | 37 => 210 | 0 => 0 | 210 => 280 | 21 => 21 | 127 => 282 | 145 => 285 | 143 => 283 | 171 => 287 | 173 => 290 | 212 => 294 | 51 => 295 | 20 => 20 | 213 => 296 | 232 => 300 | 233 => 301 | 80 => 302 | n => n, fun | 15 => 0 | 16 => 1 | 17 => 2 | 18 => 3 | 19 => 4 | n => n⟩
theorem Tryz.laysC174 : Go.Proofs.LaysC.n174 Tryz.prog Tryz.laysC174_ren := {
  mixed := by kernel_rfl
  f129 := Tryz.func257.trans (congrArg some (by kernel_rfl))
  f171 := Tryz.func249.trans (congrArg some (by kernel_rfl))
  f174 := Tryz.func226.trans (congrArg some (by kernel_rfl))
  f205 := Tryz.func248.trans (congrArg some (by kernel_rfl))
  f243 := Tryz.func250.trans (congrArg some (by kernel_rfl))
  f245 := Tryz.func234.trans (congrArg some (by kernel_rfl))
  f246 := Tryz.func251.trans (congrArg some (by kernel_rfl))
  f247 := Tryz.func233.trans (congrArg some (by kernel_rfl))
  f279 := Tryz.func239.trans (congrArg some (by kernel_rfl))
  f280 := Tryz.func240.trans (congrArg some (by kernel_rfl))
  f281 := Tryz.func241.trans (congrArg some (by kernel_rfl))
  f282 := Tryz.func242.trans (congrArg some (by kernel_rfl))
  f283 := Tryz.func252.trans (congrArg some (by kernel_rfl))
  f284 := Tryz.func253.trans (congrArg some (by kernel_rfl))
  f285 := Tryz.func254.trans (congrArg some (by kernel_rfl))
  f286 := Tryz.func255.trans (congrArg some (by kernel_rfl))
  f287 := Tryz.func238.trans (congrArg some (by kernel_rfl))
  f316 := Tryz.func247.trans (congrArg some (by kernel_rfl))
  f317 := Tryz.func256.trans (congrArg some (by kernel_rfl))
  f318 := Tryz.func258.trans (congrArg some (by kernel_rfl))
  f319 := Tryz.func259.trans (congrArg some (by kernel_rfl))
  f320 := Tryz.func260.trans (congrArg some (by kernel_rfl))
  f321 := Tryz.func245.trans (congrArg some (by kernel_rfl))
  f322 := Tryz.func246.trans (congrArg some (by kernel_rfl))
  f337 := Tryz.func261.trans (congrArg some (by kernel_rfl))
  f338 := Tryz.func262.trans (congrArg some (by kernel_rfl))
  t0 := Tryz.underlying0
  a0 := Tryz.isAgg0
  z0 := Tryz.sizeOf0
  v0 := Tryz.zeroValue0
  t2 := Tryz.underlying2
  a2 := Tryz.isAgg2
  z2 := Tryz.sizeOf2
  v2 := Tryz.zeroValue2
  t3 := Tryz.underlying3
  a3 := Tryz.isAgg3
  z3 := Tryz.sizeOf3
  v3 := Tryz.zeroValue3
  t4 := Tryz.underlying4
  a4 := Tryz.isAgg4
  z4 := Tryz.sizeOf4
  v4 := Tryz.zeroValue4
  t5 := Tryz.underlying5
  a5 := Tryz.isAgg5
  z5 := Tryz.sizeOf5
  v5 := Tryz.zeroValue5
  t9 := Tryz.underlying9
  a9 := Tryz.isAgg9
  z9 := Tryz.sizeOf9
  v9 := Tryz.zeroValue9
  t20 := Tryz.underlying20
  a20 := Tryz.isAgg20
  z20 := Tryz.sizeOf20
  v20 := Tryz.zeroValue20
  t21 := Tryz.underlying21
  a21 := Tryz.isAgg21
  z21 := Tryz.sizeOf21
  v21 := Tryz.zeroValue21
  t37 := Tryz.underlying210
  a37 := Tryz.isAgg210
  z37 := Tryz.sizeOf210
  v37 := Tryz.zeroValue210
  t46 := Tryz.underlying273
  a46 := Tryz.isAgg273
  z46 := Tryz.sizeOf273
  v46 := Tryz.zeroValue273
  t51 := Tryz.underlying295
  a51 := Tryz.isAgg295
  z51 := Tryz.sizeOf295
  v51 := Tryz.zeroValue295
  t53 := Tryz.underlying270
  a53 := Tryz.isAgg270
  z53 := Tryz.sizeOf270
  v53 := Tryz.zeroValue270
  t75 := Tryz.underlying260
  a75 := Tryz.isAgg260
  z75 := Tryz.sizeOf260
  v75 := Tryz.zeroValue260
  t85 := Tryz.underlying261
  a85 := Tryz.isAgg261
  z85 := Tryz.sizeOf261
  v85 := Tryz.zeroValue261
  t127 := Tryz.underlying282
  a127 := Tryz.isAgg282
  z127 := Tryz.sizeOf282
  v127 := Tryz.zeroValue282
  t143 := Tryz.underlying283
  a143 := Tryz.isAgg283
  z143 := Tryz.sizeOf283
  v143 := Tryz.zeroValue283
  t145 := Tryz.underlying285
  a145 := Tryz.isAgg285
  z145 := Tryz.sizeOf285
  v145 := Tryz.zeroValue285
  t167 := Tryz.underlying269
  a167 := Tryz.isAgg269
  z167 := Tryz.sizeOf269
  v167 := Tryz.zeroValue269
  t168 := Tryz.underlying274
  a168 := Tryz.isAgg274
  z168 := Tryz.sizeOf274
  v168 := Tryz.zeroValue274
  t171 := Tryz.underlying287
  a171 := Tryz.isAgg287
  z171 := Tryz.sizeOf287
  v171 := Tryz.zeroValue287
  t173 := Tryz.underlying290
  a173 := Tryz.isAgg290
  z173 := Tryz.sizeOf290
  v173 := Tryz.zeroValue290
  t175 := Tryz.underlying271
  a175 := Tryz.isAgg271
  z175 := Tryz.sizeOf271
  v175 := Tryz.zeroValue271
  t210 := Tryz.underlying280
  a210 := Tryz.isAgg280
  z210 := Tryz.sizeOf280
  v210 := Tryz.zeroValue280
  t212 := Tryz.underlying294
  a212 := Tryz.isAgg294
  z212 := Tryz.sizeOf294
  v212 := Tryz.zeroValue294
  t213 := Tryz.underlying296
  a213 := Tryz.isAgg296
  z213 := Tryz.sizeOf296
  t232 := Tryz.underlying300
  a232 := Tryz.isAgg300
  z232 := Tryz.sizeOf300
  v232 := Tryz.zeroValue300
  t233 := Tryz.underlying301
  a233 := Tryz.isAgg301
  z233 := Tryz.sizeOf301
  v233 := Tryz.zeroValue301
  g15 := by kernel_rfl
  g16 := by kernel_rfl
  g17 := by kernel_rfl
  g18 := by kernel_rfl
  g19 := by kernel_rfl
  t80 := Tryz.underlying302
  a80 := Tryz.isAgg302
  z80 := Tryz.sizeOf302
  v80 := Tryz.zeroValue302
  i0 := by kernel_rfl
  i2 := by kernel_rfl
  i3 := by kernel_rfl
  i4 := by kernel_rfl
  i5 := by kernel_rfl
  i9 := by kernel_rfl
  i20 := by kernel_rfl
  i21 := by kernel_rfl
  i37 := by kernel_rfl
  i46 := by kernel_rfl
  i51 := by kernel_rfl
  i53 := by kernel_rfl
  i75 := by kernel_rfl
  i80 := by kernel_rfl
  i85 := by kernel_rfl
  i127 := by kernel_rfl
  i143 := by kernel_rfl
  i145 := by kernel_rfl
  i167 := by kernel_rfl
  i168 := by kernel_rfl
  i171 := by kernel_rfl
  i173 := by kernel_rfl
  i175 := by kernel_rfl
  i210 := by kernel_rfl
  i212 := by kernel_rfl
  i232 := by kernel_rfl
  i233 := by kernel_rfl
  m15 := by kernel_rfl
  m16 := by kernel_rfl
  m17 := by kernel_rfl
  m18 := by kernel_rfl
  m19 := by kernel_rfl
  c0 := by kernel_rfl
  c2 := by kernel_rfl
  c3 := by kernel_rfl
  c4 := by kernel_rfl
  c5 := by kernel_rfl
  c9 := by kernel_rfl
  c20 := by kernel_rfl
  c21 := by kernel_rfl
  c37 := by kernel_rfl
  c46 := by kernel_rfl
  c51 := by kernel_rfl
  c53 := by kernel_rfl
  c75 := by kernel_rfl
  c80 := by kernel_rfl
  c85 := by kernel_rfl
  c127 := by kernel_rfl
  c143 := by kernel_rfl
  c145 := by kernel_rfl
  c167 := by kernel_rfl
  c168 := by kernel_rfl
  c171 := by kernel_rfl
  c173 := by kernel_rfl
  c175 := by kernel_rfl
  c210 := by kernel_rfl
  c212 := by kernel_rfl
  c213 := by kernel_rfl
  c232 := by kernel_rfl
  c233 := by kernel_rfl }
open Go.RowKit in
/-- strconv.ParseInt(s, 10, 32), AT EVERY STRING THAT SPELLS AN int32 ('Lib.parseIntB 32 s.data.toList = .ok v'): v, AND NO ERROR. (LAID: no walk: one application.) -/
theorem Tryz.strconv_ParseInt_10_at32_ok (s : ByteArray) (hmax : s.size ≤ 9223372036854775806) (v : Int) (h : Lib.parseIntB 32 s.data.toList = .ok v) (w : World) :
    Calls Tryz.prog 226 #[.string s, .int .i64 10, .int .i64 32] w fun e w' => e = .returned (.tuple #[.int .i64 v, .nilIface]) ∧ (w' = w ∨ ∃ t, w' = Lib.bytesWorld w 5 t) := Any.strconv_ParseInt_10_at32_ok Tryz.laysC174 s hmax v h w
open Go.RowKit in
/-- strconv.ParseInt(s, 10, 32), AT EVERY STRING THAT IS NO DECIMAL NUMERAL: 0, AND AN ERROR THAT IS NOT nil: a *NumError in a new block N: {Func: "ParseInt", Num: s's bytes, Err: what the variable ErrSyntax holds}. Of what was there nothing has turned. (LAID: no walk: one application.) -/
theorem Tryz.strconv_ParseInt_10_at32_none (s : ByteArray) (hlim : s.size ≤ 281474976710656) (h : Lib.parseIntB 32 s.data.toList = Lib.parseIntB 32 []) (ev : Value) (w : World) (hv : w.cell? ⟨0, 0, none⟩ = some ev) (hev : ev = .nilIface ∨ ∃ te pe, ev = .iface te pe) :
    Calls Tryz.prog 226 #[.string s, .int .i64 10, .int .i64 32] w fun e w' => ∃ N, e = .returned (.tuple #[.int .i64 (0), .iface 274 (.pointer (some ⟨N, 0, none⟩))]) ∧ w.heap.size ≤ N ∧ w'.heap[N]? = some (.cells #[.string ⟨#[80, 97, 114, 115, 101, 73, 110, 116]⟩, .string s, ev] 280 (0, 0)) ∧ Below w.heap.size w w' := Any.strconv_ParseInt_10_at32_syntax Tryz.laysC174 s hlim (h.trans (by rfl)) ev w hv hev
open Go.RowKit in
/-- strconv.ParseInt(s, 10, 32), AT EVERY NUMERAL THAT NO int32 HOLDS: THE GREATEST OR THE LEAST int32, BY THE SIGN ('Lib.intSat 32'), AND AN ERROR THAT IS NOT nil: a *NumError in a new block N: {Func: "ParseInt", Num: s's bytes, Err: what the variable ErrRange holds}. Of what was there nothing has turned. (LAID: no walk: one application.) -/
theorem Tryz.strconv_ParseInt_10_at32_range (s : ByteArray) (hlim : s.size ≤ 281474976710656) (h : Lib.parseIntB 32 s.data.toList = .range) (ev : Value) (w : World) (hv : w.cell? ⟨1, 0, none⟩ = some ev) (hev : ev = .nilIface ∨ ∃ te pe, ev = .iface te pe) :
    Calls Tryz.prog 226 #[.string s, .int .i64 10, .int .i64 32] w fun e w' => ∃ N, e = .returned (.tuple #[.int .i64 (Lib.intSat 32 s.data.toList), .iface 274 (.pointer (some ⟨N, 0, none⟩))]) ∧ w.heap.size ≤ N ∧ w'.heap[N]? = some (.cells #[.string ⟨#[80, 97, 114, 115, 101, 73, 110, 116]⟩, .string s, ev] 280 (0, 0)) ∧ Below w.heap.size w w' := Any.strconv_ParseInt_10_at32_range Tryz.laysC174 s hlim h ev w hv hev
end Go.Proofs
end
section
/- impl.Fits32 on the machine. -/
namespace Go.Vs
open Go Go.Proofs Go.RowKit
/-- Does a text tell a number of 32 bits? -/
def f32 (s : ByteArray) : Bool := okB s.data.toList
theorem below_step {w w1 w2 : World} (h : Below w.heap.size w w1) (k : Below w1.heap.size w1 w2) : Below w.heap.size w w2 :=
  h.trans ⟨k.os, k.tape, k.output, k.size, fun j hj => k.block j (Nat.lt_of_lt_of_le hj h.size)⟩
theorem below_bytes {w w1 : World} {e : TypeId} (h : w1 = w ∨ ∃ t, w1 = Lib.bytesWorld w e t) : Below w.heap.size w w1 := by
  rcases h with rfl | ⟨t, rfl⟩
  · exact Below.refl _ _
  · exact Lib.bytesWorld_below w e t
set_option maxHeartbeats 1000000 in
set_option maxRecDepth 100000 in
theorem fits32_walk (s : ByteArray) (hs : s.size ≤ 281474976710656) (ok : Bool) (ev0 ev1 : Value) (w : World) (hv0 : w.cell? ⟨0, 0, none⟩ = some ev0) (hv1 : w.cell? ⟨1, 0, none⟩ = some ev1)
    (he0 : ev0 = .nilIface ∨ ∃ te pe, ev0 = .iface te pe) (he1 : ev1 = .nilIface ∨ ∃ te pe, ev1 = .iface te pe)
    (hI : ∀ w1, Below w.heap.size w w1 → Calls Tryz.prog 227 #[.string s] w1 fun e w' => e = .returned (.bool ok) ∧ Below w1.heap.size w1 w') :
    Calls Tryz.prog 219 #[.string s] w fun e w' => e = .returned (.bool (ok && f32 s)) ∧ Below w.heap.size w w' := by
  cases h : Lib.parseIntB 32 s.data.toList with
  | ok v =>
    have hf : f32 s = true := by unfold f32 okB; rw [h]
    go_enter Tryz.func219, Tryz.ntmps219
    go_wp2_with (first
      | (go_at_call 226; refine (Tryz.strconv_ParseInt_10_at32_ok s (by omega) v h _).mono ?_; rintro e w1 ⟨rfl, hw⟩; have hb1 : Below w.heap.size w w1 := below_bytes hw)
      | (go_at_call 227; refine (hI _ hb1).mono ?_; rintro e w2 ⟨rfl, hb⟩))
    · go_ret; exact ⟨by simp_all, below_step hb1 hb⟩
    · go_ret; exact ⟨by simp_all, below_step hb1 hb⟩
  | range =>
    have hf : f32 s = false := by unfold f32 okB; rw [h]
    go_enter Tryz.func219, Tryz.ntmps219
    go_wp2_with (first
      | (go_at_call 226; refine (Tryz.strconv_ParseInt_10_at32_range s hs h ev1 _ hv1 he1).mono ?_; rintro e w1 ⟨N, rfl, _, _, hb1⟩)
      | (go_at_call 227; refine (hI _ hb1).mono ?_; rintro e w2 ⟨rfl, hb⟩))
    · go_ret; exact ⟨by simp_all, below_step hb1 hb⟩
    · go_ret; exact ⟨by simp_all, below_step hb1 hb⟩
  | _ =>
    have hf : f32 s = false := by unfold f32 okB; rw [h]
    go_enter Tryz.func219, Tryz.ntmps219
    go_wp2_with (first
      | (go_at_call 226; refine (Tryz.strconv_ParseInt_10_at32_none s hs (h.trans (by rfl)) ev0 _ hv0 he0).mono ?_; rintro e w1 ⟨N, rfl, _, _, hb1⟩)
      | (go_at_call 227; refine (hI _ hb1).mono ?_; rintro e w2 ⟨rfl, hb⟩))
    · go_ret; exact ⟨by simp_all, below_step hb1 hb⟩
    · go_ret; exact ⟨by simp_all, below_step hb1 hb⟩
end Go.Vs
end
section
open Go Go.Vs Go.Proofs
set_option linter.unusedVariables false
set_option linter.unusedSimpArgs false
namespace Go.Vs
/-! ### impl.Fits32 is told by the library's contract -/
noncomputable abbrev Dn0 : Oracle false := den Tryz.prog (fun _ => none) Hs
theorem closed0 (l : List FuncId) : Closed Dn0 l := fun f _ a b r h => den_fast rfl h
theorem hP : Tryz.prog.follows .mixedOrders = true := by kernel_rfl
theorem hG : Tryz.prog.funcs.all (fun fn => !(fn.name == "runtime.NumGoroutine")) = true := by kernel_rfl
def fitsT : List (SV false) → List (List (SV false)) → Ret false
  | [.leaf (.str s)], [] => if s.size ≤ 281474976710656 then some (vbool (intB s.data.toList && f32 s), []) else none
  | _, _ => none
def told : Told false := fun f => if f = F.impl_Fits32 then some fitsT else none
/-- What the library's two errors hold. -/
def KOf (ev0 ev1 : Value) : Known := [((0, 0), ev0), ((1, 0), ev1)]
def isErr (v : Value) : Prop := v = .nilIface ∨ ∃ te pe, v = .iface te pe
theorem fn_is : ∃ fn, Tryz.prog.funcs[F.impl_Fits32]? = some fn ∧ (fn.name == "runtime.NumGoroutine") = false ∧ fn.body.isNone = false := ⟨_, Tryz.func219, by kernel_rfl, by kernel_rfl⟩
theorem told_sound {N : Env} {ev0 ev1 : Value} (hN : N.K = KOf ev0 ev1) (he0 : isErr ev0) (he1 : isErr ev1) : TSound Tryz.prog N told := by
  intro f t ht g args boxes r hr hh hf
  unfold told at ht
  split at ht
  · rename_i hff
    subst hff
    simp -implicitDefEqProofs only [Option.some.injEq] at ht
    subst ht
    replace hr : (if g = F.impl_Fits32 then fitsT args boxes else none) = some r := hr
    split at hr
    · rename_i hg
      subst hg
      unfold fitsT at hr
      split at hr
      · rename_i s
        split at hr
        · rename_i hs
          simp -implicitDefEqProofs only [Option.some.injEq] at hr
          subst hr
          refine ⟨rfl, rfl, fun cs hcs => by simp at hcs, fn_is, fun w F1 Ow bm vals hI => ?_⟩
          obtain rfl := inv_str hI
          have k0 := hI.low.know ((0, 0), ev0) (by rw [hN]; simp [KOf])
          have k1 := hI.low.know ((1, 0), ev1) (by rw [hN]; simp [KOf])
          refine (fits32_walk s hs (intB s.data.toList) ev0 ev1 w k0.2.2 k1.2.2 he0 he1 fun w1 _ => ?_).mono fun e w' ⟨he, hb⟩ => ?_
          · have hD : DSound Tryz.prog (N0 w1 []) Dn0 := den_sound hP hG tsound_none Hs
            have hm : (281474976710656 : Nat) ≤ maxLen := by decide
            have hc : Dn0 F.impl_IntOk [.leaf (.str s)] [] = some (vbool (intB s.data.toList), []) := c_IntOk (closed0 _) (Nat.le_trans hs hm)
            refine (law_calls (K := []) hD hc rfl (vals := #[.string s]) rfl (fun j a v ha hv => ?_)).mono fun e w2 ⟨v, F', Ow', bm', al, he, hv, hb⟩ => ?_
            · cases j with
              | zero =>
                simp -implicitDefEqProofs only [List.getElem?_cons_zero, Option.some.injEq] at ha
                subst ha
                have : v = .string s := by simpa using hv.symm
                subst this
                exact RepS.leaf (RepL.str s)
              | succ j => simp at ha
            · have h2 : RepL w2 F' (N0 w1 []) (Leaf.bool (intB s.data.toList) : Leaf false) v := by simpa [RepS, RepF] using hv
              cases h2
              exact ⟨he, hb⟩
          · exact ⟨_, F1, Ow, he, below_inv hI hb (RepL.bool _), below_far hI hb⟩
        · simp at hr
      · simp at hr
    · simp at hr
  · simp at ht
end Go.Vs
end
section
/- What is counted and lasts is not too long, wherever it lies. -/
set_option linter.unusedVariables false
namespace Go.Vs
mutual
/-- Texts and rows, wherever they lie, are no longer than that. -/
def bdF (B : Nat) : Leaf false → Prop
  | .str s => s.size ≤ B
  | .sl _ es => es.length ≤ B ∧ bdE B es
  | _ => True
def bdL (B : Nat) : List (Leaf false) → Prop
  | [] => True
  | l :: r => bdF B l ∧ bdL B r
def bdE (B : Nat) : List (List (Leaf false)) → Prop
  | [] => True
  | e :: es => bdL B e ∧ bdE B es
end
theorem bdE_mem {B : Nat} : ∀ {es : List (List (Leaf false))}, bdE B es → ∀ e ∈ es, bdL B e
  | x :: r, h, e, he => by
    rw [bdE] at h
    rcases List.mem_cons.1 he with rfl | he
    · exact h.1
    · exact bdE_mem h.2 e he
mutual
theorem szF_bd {z B : Nat} (hB : (B : Int) ≤ cap) : ∀ (l : Leaf false) (n : Int), okF z l → 0 ≤ n → n ≤ B → 0 ≤ szF l n → bdF B l
  | .str s, n, ho, h0, hn, h => by
    have hm : maxLen = 9223372036854775807 := rfl
    simp only [okF] at ho
    simp only [szF, bdF, cap] at *
    rw [wrap64 (by omega) (by omega)] at h
    split at h <;> omega
  | .sl _ es, n, ho, h0, hn, h => by
    have hm : maxLen = 9223372036854775807 := rfl
    simp only [okF] at ho
    simp only [szF, bdF] at *
    rw [wrap64 (by simp only [cap] at hB; omega) (by simp only [cap] at hB; omega)] at h
    by_cases hl : n - (es.length : Int) < 0
    · simp [hl] at h
    · simp only [hl, if_false] at h
      exact ⟨by omega, szE_bd hB es _ ho.2 (by omega) (by omega) h⟩
  | .bool _, n, _, _, _, _ => by simp [bdF]
  | .int _ _, n, _, _, _, _ => by simp [bdF]
  | .unk, n, _, _, _, _ => by simp [bdF]
  | .nl _, n, _, _, _, _ => by simp [bdF]
theorem szL_bd {z B : Nat} (hB : (B : Int) ≤ cap) : ∀ (l : List (Leaf false)) (n : Int), okL z l → 0 ≤ n → n ≤ B → 0 ≤ szL l n → bdL B l
  | [], n, _, _, _, _ => by simp [bdL]
  | l :: r, n, ho, h0, hn, h => by
    simp only [okL] at ho
    simp only [szL, bdL] at *
    by_cases hl : szF l n < 0
    · simp [hl] at h
    · simp only [hl, if_false] at h
      have h1 := szF_t l n ho.1 h0 (by omega) (by omega)
      exact ⟨szF_bd hB l n ho.1 h0 hn (by omega), szL_bd hB r _ ho.2 (by omega) (by omega) h⟩
theorem szE_bd {z B : Nat} (hB : (B : Int) ≤ cap) : ∀ (l : List (List (Leaf false))) (n : Int), okE z l → 0 ≤ n → n ≤ B → 0 ≤ szE l n → bdE B l
  | [], n, _, _, _, _ => by simp [bdE]
  | e :: r, n, ho, h0, hn, h => by
    simp only [okE] at ho
    simp only [szE, bdE] at *
    by_cases hl : szL e n < 0
    · simp [hl] at h
    · simp only [hl, if_false] at h
      have h1 := szL_t e n ho.2.1 h0 (by omega) (by omega)
      exact ⟨szL_bd hB e n ho.2.1 h0 hn (by omega), szE_bd hB r _ ho.2.2 (by omega) (by omega) h⟩
end
end Go.Vs
end
section
open Go Go.Vs Go.Proofs
set_option linter.unusedVariables false
set_option linter.unusedSimpArgs false
namespace Go.Vs
noncomputable abbrev Dn : Oracle false := den Go.Proofs.Tryz.prog told Hs
theorem den_of {f : FuncId} {a : List (SV false)} {b : List (List (SV false))} {r : SV false × List (List (SV false))} (h : run2V Go.Proofs.Tryz.prog Dn Hs limR f a b = some r) (hf : told f = none := by rfl) : Dn f a b = some r :=
  den_fast hf h
inductive IsType : List (Leaf false) → Prop
  | mk (s0 : ByteArray) (s1 : ByteArray) (h0 : s0.size ≤ maxLen) (h1 : s1.size ≤ maxLen) : IsType [.str s0, .str s1]
theorem IsType.ex {ls : List (Leaf false)} (h : IsType ls) : ∃ (s0 : ByteArray) (s1 : ByteArray), ls = [.str s0, .str s1] ∧ s0.size ≤ maxLen ∧ s1.size ≤ maxLen := by
  cases h with
  | mk s0 s1 h0 h1 => exact ⟨s0, s1, rfl, h0, h1⟩
theorem IsType.len {ls : List (Leaf false)} (h : IsType ls) : ls.length = 2 := by cases h; rfl
theorem IsType.ok {ls : List (Leaf false)} (h : IsType ls) : okL 16 ls := by
  cases h with
  | mk s0 s1 h0 h1 => simp only [okL, okF]; exact ⟨h0, h1, trivial⟩
inductive IsValue : List (Leaf false) → Prop
  | mk (i0 : Int) (s1 : ByteArray) (e2 : List (List (Leaf false))) (e3 : List (List (Leaf false))) (h1 : s1.size ≤ maxLen) (h2 : e2.length ≤ maxLen) (q2 : ∀ e ∈ e2, IsValue e) (h3 : e3.length ≤ maxLen) (q3 : ∀ e ∈ e3, IsStr e) : IsValue [.int .i64 i0, .str s1, .sl fP e2, .sl fP e3]
theorem IsValue.ex {ls : List (Leaf false)} (h : IsValue ls) : ∃ (i0 : Int) (s1 : ByteArray) (e2 : List (List (Leaf false))) (e3 : List (List (Leaf false))), ls = [.int .i64 i0, .str s1, .sl fP e2, .sl fP e3] ∧ s1.size ≤ maxLen ∧ e2.length ≤ maxLen ∧ (∀ e ∈ e2, IsValue e) ∧ e3.length ≤ maxLen ∧ (∀ e ∈ e3, IsStr e) := by
  cases h with
  | mk i0 s1 e2 e3 h1 h2 q2 h3 q3 => exact ⟨i0, s1, e2, e3, rfl, h1, h2, q2, h3, q3⟩
theorem IsValue.len {ls : List (Leaf false)} (h : IsValue ls) : ls.length = 4 := by cases h; rfl
theorem IsValue.ok {ls : List (Leaf false)} (h : IsValue ls) : okL 16 ls := by
  induction h with
  | mk i0 s1 e2 e3 h1 h2 q2 h3 q3 ih2 => simp only [okL, okF]; exact ⟨trivial, h1, ⟨h2, okE_of fun e he => ⟨by have := (q2 e he).len; omega, ih2 e he⟩⟩, ⟨h3, okE_of fun e he => ⟨by have := (q3 e he).len; omega, (q3 e he).ok⟩⟩, trivial⟩
inductive IsArg : List (Leaf false) → Prop
  | mk (s0 : ByteArray) (i1 : Int) (s2 : ByteArray) (e3 : List (List (Leaf false))) (e4 : List (List (Leaf false))) (h0 : s0.size ≤ maxLen) (h2 : s2.size ≤ maxLen) (h3 : e3.length ≤ maxLen) (q3 : ∀ e ∈ e3, IsValue e) (h4 : e4.length ≤ maxLen) (q4 : ∀ e ∈ e4, IsStr e) : IsArg [.str s0, .int .i64 i1, .str s2, .sl fP e3, .sl fP e4]
theorem IsArg.ex {ls : List (Leaf false)} (h : IsArg ls) : ∃ (s0 : ByteArray) (i1 : Int) (s2 : ByteArray) (e3 : List (List (Leaf false))) (e4 : List (List (Leaf false))), ls = [.str s0, .int .i64 i1, .str s2, .sl fP e3, .sl fP e4] ∧ s0.size ≤ maxLen ∧ s2.size ≤ maxLen ∧ e3.length ≤ maxLen ∧ (∀ e ∈ e3, IsValue e) ∧ e4.length ≤ maxLen ∧ (∀ e ∈ e4, IsStr e) := by
  cases h with
  | mk s0 i1 s2 e3 e4 h0 h2 h3 q3 h4 q4 => exact ⟨s0, i1, s2, e3, e4, rfl, h0, h2, h3, q3, h4, q4⟩
theorem IsArg.len {ls : List (Leaf false)} (h : IsArg ls) : ls.length = 5 := by cases h; rfl
theorem IsArg.ok {ls : List (Leaf false)} (h : IsArg ls) : okL 16 ls := by
  cases h with
  | mk s0 i1 s2 e3 e4 h0 h2 h3 q3 h4 q4 => simp only [okL, okF]; exact ⟨h0, trivial, h2, ⟨h3, okE_of fun e he => ⟨by have := (q3 e he).len; omega, (q3 e he).ok⟩⟩, ⟨h4, okE_of fun e he => ⟨by have := (q4 e he).len; omega, (q4 e he).ok⟩⟩, trivial⟩
inductive IsDir : List (Leaf false) → Prop
  | mk (s0 : ByteArray) (e1 : List (List (Leaf false))) (h0 : s0.size ≤ maxLen) (h1 : e1.length ≤ maxLen) (q1 : ∀ e ∈ e1, IsArg e) : IsDir [.str s0, .sl fP e1]
theorem IsDir.ex {ls : List (Leaf false)} (h : IsDir ls) : ∃ (s0 : ByteArray) (e1 : List (List (Leaf false))), ls = [.str s0, .sl fP e1] ∧ s0.size ≤ maxLen ∧ e1.length ≤ maxLen ∧ (∀ e ∈ e1, IsArg e) := by
  cases h with
  | mk s0 e1 h0 h1 q1 => exact ⟨s0, e1, rfl, h0, h1, q1⟩
theorem IsDir.len {ls : List (Leaf false)} (h : IsDir ls) : ls.length = 2 := by cases h; rfl
theorem IsDir.ok {ls : List (Leaf false)} (h : IsDir ls) : okL 16 ls := by
  cases h with
  | mk s0 e1 h0 h1 q1 => simp only [okL, okF]; exact ⟨h0, ⟨h1, okE_of fun e he => ⟨by have := (q1 e he).len; omega, (q1 e he).ok⟩⟩, trivial⟩
inductive IsInDef : List (Leaf false) → Prop
  | mk (s0 : ByteArray) (s1 : ByteArray) (s2 : ByteArray) (s3 : ByteArray) (b4 : Bool) (i5 : Int) (s6 : ByteArray) (e7 : List (List (Leaf false))) (e8 : List (List (Leaf false))) (e9 : List (List (Leaf false))) (h0 : s0.size ≤ maxLen) (h1 : s1.size ≤ maxLen) (h2 : s2.size ≤ maxLen) (h3 : s3.size ≤ maxLen) (h6 : s6.size ≤ maxLen) (h7 : e7.length ≤ maxLen) (q7 : ∀ e ∈ e7, IsValue e) (h8 : e8.length ≤ maxLen) (q8 : ∀ e ∈ e8, IsStr e) (h9 : e9.length ≤ maxLen) (q9 : ∀ e ∈ e9, IsDir e) : IsInDef [.str s0, .str s1, .str s2, .str s3, .bool b4, .int .i64 i5, .str s6, .sl fP e7, .sl fP e8, .sl fP e9]
theorem IsInDef.ex {ls : List (Leaf false)} (h : IsInDef ls) : ∃ (s0 : ByteArray) (s1 : ByteArray) (s2 : ByteArray) (s3 : ByteArray) (b4 : Bool) (i5 : Int) (s6 : ByteArray) (e7 : List (List (Leaf false))) (e8 : List (List (Leaf false))) (e9 : List (List (Leaf false))), ls = [.str s0, .str s1, .str s2, .str s3, .bool b4, .int .i64 i5, .str s6, .sl fP e7, .sl fP e8, .sl fP e9] ∧ s0.size ≤ maxLen ∧ s1.size ≤ maxLen ∧ s2.size ≤ maxLen ∧ s3.size ≤ maxLen ∧ s6.size ≤ maxLen ∧ e7.length ≤ maxLen ∧ (∀ e ∈ e7, IsValue e) ∧ e8.length ≤ maxLen ∧ (∀ e ∈ e8, IsStr e) ∧ e9.length ≤ maxLen ∧ (∀ e ∈ e9, IsDir e) := by
  cases h with
  | mk s0 s1 s2 s3 b4 i5 s6 e7 e8 e9 h0 h1 h2 h3 h6 h7 q7 h8 q8 h9 q9 => exact ⟨s0, s1, s2, s3, b4, i5, s6, e7, e8, e9, rfl, h0, h1, h2, h3, h6, h7, q7, h8, q8, h9, q9⟩
theorem IsInDef.len {ls : List (Leaf false)} (h : IsInDef ls) : ls.length = 10 := by cases h; rfl
theorem IsInDef.ok {ls : List (Leaf false)} (h : IsInDef ls) : okL 16 ls := by
  cases h with
  | mk s0 s1 s2 s3 b4 i5 s6 e7 e8 e9 h0 h1 h2 h3 h6 h7 q7 h8 q8 h9 q9 => simp only [okL, okF]; exact ⟨h0, h1, h2, h3, trivial, trivial, h6, ⟨h7, okE_of fun e he => ⟨by have := (q7 e he).len; omega, (q7 e he).ok⟩⟩, ⟨h8, okE_of fun e he => ⟨by have := (q8 e he).len; omega, (q8 e he).ok⟩⟩, ⟨h9, okE_of fun e he => ⟨by have := (q9 e he).len; omega, (q9 e he).ok⟩⟩, trivial⟩
inductive IsFieldDef : List (Leaf false) → Prop
  | mk (s0 : ByteArray) (s1 : ByteArray) (e2 : List (List (Leaf false))) (s3 : ByteArray) (s4 : ByteArray) (e5 : List (List (Leaf false))) (h0 : s0.size ≤ maxLen) (h1 : s1.size ≤ maxLen) (h2 : e2.length ≤ maxLen) (q2 : ∀ e ∈ e2, IsInDef e) (h3 : s3.size ≤ maxLen) (h4 : s4.size ≤ maxLen) (h5 : e5.length ≤ maxLen) (q5 : ∀ e ∈ e5, IsDir e) : IsFieldDef [.str s0, .str s1, .sl fP e2, .str s3, .str s4, .sl fP e5]
theorem IsFieldDef.ex {ls : List (Leaf false)} (h : IsFieldDef ls) : ∃ (s0 : ByteArray) (s1 : ByteArray) (e2 : List (List (Leaf false))) (s3 : ByteArray) (s4 : ByteArray) (e5 : List (List (Leaf false))), ls = [.str s0, .str s1, .sl fP e2, .str s3, .str s4, .sl fP e5] ∧ s0.size ≤ maxLen ∧ s1.size ≤ maxLen ∧ e2.length ≤ maxLen ∧ (∀ e ∈ e2, IsInDef e) ∧ s3.size ≤ maxLen ∧ s4.size ≤ maxLen ∧ e5.length ≤ maxLen ∧ (∀ e ∈ e5, IsDir e) := by
  cases h with
  | mk s0 s1 e2 s3 s4 e5 h0 h1 h2 q2 h3 h4 h5 q5 => exact ⟨s0, s1, e2, s3, s4, e5, rfl, h0, h1, h2, q2, h3, h4, h5, q5⟩
theorem IsFieldDef.len {ls : List (Leaf false)} (h : IsFieldDef ls) : ls.length = 6 := by cases h; rfl
theorem IsFieldDef.ok {ls : List (Leaf false)} (h : IsFieldDef ls) : okL 16 ls := by
  cases h with
  | mk s0 s1 e2 s3 s4 e5 h0 h1 h2 q2 h3 h4 h5 q5 => simp only [okL, okF]; exact ⟨h0, h1, ⟨h2, okE_of fun e he => ⟨by have := (q2 e he).len; omega, (q2 e he).ok⟩⟩, h3, h4, ⟨h5, okE_of fun e he => ⟨by have := (q5 e he).len; omega, (q5 e he).ok⟩⟩, trivial⟩
inductive IsEnumDef : List (Leaf false) → Prop
  | mk (s0 : ByteArray) (s1 : ByteArray) (e2 : List (List (Leaf false))) (h0 : s0.size ≤ maxLen) (h1 : s1.size ≤ maxLen) (h2 : e2.length ≤ maxLen) (q2 : ∀ e ∈ e2, IsDir e) : IsEnumDef [.str s0, .str s1, .sl fP e2]
theorem IsEnumDef.ex {ls : List (Leaf false)} (h : IsEnumDef ls) : ∃ (s0 : ByteArray) (s1 : ByteArray) (e2 : List (List (Leaf false))), ls = [.str s0, .str s1, .sl fP e2] ∧ s0.size ≤ maxLen ∧ s1.size ≤ maxLen ∧ e2.length ≤ maxLen ∧ (∀ e ∈ e2, IsDir e) := by
  cases h with
  | mk s0 s1 e2 h0 h1 h2 q2 => exact ⟨s0, s1, e2, rfl, h0, h1, h2, q2⟩
theorem IsEnumDef.len {ls : List (Leaf false)} (h : IsEnumDef ls) : ls.length = 3 := by cases h; rfl
theorem IsEnumDef.ok {ls : List (Leaf false)} (h : IsEnumDef ls) : okL 16 ls := by
  cases h with
  | mk s0 s1 e2 h0 h1 h2 q2 => simp only [okL, okF]; exact ⟨h0, h1, ⟨h2, okE_of fun e he => ⟨by have := (q2 e he).len; omega, (q2 e he).ok⟩⟩, trivial⟩
inductive IsRoot : List (Leaf false) → Prop
  | mk (i0 : Int) (s1 : ByteArray) (h1 : s1.size ≤ maxLen) : IsRoot [.int .i64 i0, .str s1]
theorem IsRoot.ex {ls : List (Leaf false)} (h : IsRoot ls) : ∃ (i0 : Int) (s1 : ByteArray), ls = [.int .i64 i0, .str s1] ∧ s1.size ≤ maxLen := by
  cases h with
  | mk i0 s1 h1 => exact ⟨i0, s1, rfl, h1⟩
theorem IsRoot.len {ls : List (Leaf false)} (h : IsRoot ls) : ls.length = 2 := by cases h; rfl
theorem IsRoot.ok {ls : List (Leaf false)} (h : IsRoot ls) : okL 16 ls := by
  cases h with
  | mk i0 s1 h1 => simp only [okL, okF]; exact ⟨trivial, h1, trivial⟩
inductive IsDef : List (Leaf false) → Prop
  | mk (i0 : Int) (b1 : Bool) (s2 : ByteArray) (s3 : ByteArray) (e4 : List (List (Leaf false))) (e5 : List (List (Leaf false))) (e6 : List (List (Leaf false))) (e7 : List (List (Leaf false))) (e8 : List (List (Leaf false))) (b9 : Bool) (e10 : List (List (Leaf false))) (h2 : s2.size ≤ maxLen) (h3 : s3.size ≤ maxLen) (h4 : e4.length ≤ maxLen) (q4 : ∀ e ∈ e4, IsStr e) (h5 : e5.length ≤ maxLen) (q5 : ∀ e ∈ e5, IsFieldDef e) (h6 : e6.length ≤ maxLen) (q6 : ∀ e ∈ e6, IsInDef e) (h7 : e7.length ≤ maxLen) (q7 : ∀ e ∈ e7, IsEnumDef e) (h8 : e8.length ≤ maxLen) (q8 : ∀ e ∈ e8, IsRoot e) (h10 : e10.length ≤ maxLen) (q10 : ∀ e ∈ e10, IsDir e) : IsDef [.int .i64 i0, .bool b1, .str s2, .str s3, .sl fP e4, .sl fP e5, .sl fP e6, .sl fP e7, .sl fP e8, .bool b9, .sl fP e10]
theorem IsDef.ex {ls : List (Leaf false)} (h : IsDef ls) : ∃ (i0 : Int) (b1 : Bool) (s2 : ByteArray) (s3 : ByteArray) (e4 : List (List (Leaf false))) (e5 : List (List (Leaf false))) (e6 : List (List (Leaf false))) (e7 : List (List (Leaf false))) (e8 : List (List (Leaf false))) (b9 : Bool) (e10 : List (List (Leaf false))), ls = [.int .i64 i0, .bool b1, .str s2, .str s3, .sl fP e4, .sl fP e5, .sl fP e6, .sl fP e7, .sl fP e8, .bool b9, .sl fP e10] ∧ s2.size ≤ maxLen ∧ s3.size ≤ maxLen ∧ e4.length ≤ maxLen ∧ (∀ e ∈ e4, IsStr e) ∧ e5.length ≤ maxLen ∧ (∀ e ∈ e5, IsFieldDef e) ∧ e6.length ≤ maxLen ∧ (∀ e ∈ e6, IsInDef e) ∧ e7.length ≤ maxLen ∧ (∀ e ∈ e7, IsEnumDef e) ∧ e8.length ≤ maxLen ∧ (∀ e ∈ e8, IsRoot e) ∧ e10.length ≤ maxLen ∧ (∀ e ∈ e10, IsDir e) := by
  cases h with
  | mk i0 b1 s2 s3 e4 e5 e6 e7 e8 b9 e10 h2 h3 h4 q4 h5 q5 h6 q6 h7 q7 h8 q8 h10 q10 => exact ⟨i0, b1, s2, s3, e4, e5, e6, e7, e8, b9, e10, rfl, h2, h3, h4, q4, h5, q5, h6, q6, h7, q7, h8, q8, h10, q10⟩
theorem IsDef.len {ls : List (Leaf false)} (h : IsDef ls) : ls.length = 11 := by cases h; rfl
theorem IsDef.ok {ls : List (Leaf false)} (h : IsDef ls) : okL 16 ls := by
  cases h with
  | mk i0 b1 s2 s3 e4 e5 e6 e7 e8 b9 e10 h2 h3 h4 q4 h5 q5 h6 q6 h7 q7 h8 q8 h10 q10 => simp only [okL, okF]; exact ⟨trivial, trivial, h2, h3, ⟨h4, okE_of fun e he => ⟨by have := (q4 e he).len; omega, (q4 e he).ok⟩⟩, ⟨h5, okE_of fun e he => ⟨by have := (q5 e he).len; omega, (q5 e he).ok⟩⟩, ⟨h6, okE_of fun e he => ⟨by have := (q6 e he).len; omega, (q6 e he).ok⟩⟩, ⟨h7, okE_of fun e he => ⟨by have := (q7 e he).len; omega, (q7 e he).ok⟩⟩, ⟨h8, okE_of fun e he => ⟨by have := (q8 e he).len; omega, (q8 e he).ok⟩⟩, trivial, ⟨h10, okE_of fun e he => ⟨by have := (q10 e he).len; omega, (q10 e he).ok⟩⟩, trivial⟩
inductive IsSchema : List (Leaf false) → Prop
  | mk (e0 : List (List (Leaf false))) (e1 : List (List (Leaf false))) (e2 : List (List (Leaf false))) (h0 : e0.length ≤ maxLen) (q0 : ∀ e ∈ e0, IsDef e) (h1 : e1.length ≤ maxLen) (q1 : ∀ e ∈ e1, IsDef e) (h2 : e2.length ≤ maxLen) (q2 : ∀ e ∈ e2, IsRoot e) : IsSchema [.sl fP e0, .sl fP e1, .sl fP e2]
theorem IsSchema.ex {ls : List (Leaf false)} (h : IsSchema ls) : ∃ (e0 : List (List (Leaf false))) (e1 : List (List (Leaf false))) (e2 : List (List (Leaf false))), ls = [.sl fP e0, .sl fP e1, .sl fP e2] ∧ e0.length ≤ maxLen ∧ (∀ e ∈ e0, IsDef e) ∧ e1.length ≤ maxLen ∧ (∀ e ∈ e1, IsDef e) ∧ e2.length ≤ maxLen ∧ (∀ e ∈ e2, IsRoot e) := by
  cases h with
  | mk e0 e1 e2 h0 q0 h1 q1 h2 q2 => exact ⟨e0, e1, e2, rfl, h0, q0, h1, q1, h2, q2⟩
theorem IsSchema.len {ls : List (Leaf false)} (h : IsSchema ls) : ls.length = 3 := by cases h; rfl
theorem IsSchema.ok {ls : List (Leaf false)} (h : IsSchema ls) : okL 16 ls := by
  cases h with
  | mk e0 e1 e2 h0 q0 h1 q1 h2 q2 => simp only [okL, okF]; exact ⟨⟨h0, okE_of fun e he => ⟨by have := (q0 e he).len; omega, (q0 e he).ok⟩⟩, ⟨h1, okE_of fun e he => ⟨by have := (q1 e he).len; omega, (q1 e he).ok⟩⟩, ⟨h2, okE_of fun e he => ⟨by have := (q2 e he).len; omega, (q2 e he).ok⟩⟩, trivial⟩
inductive IsProblem : List (Leaf false) → Prop
  | mk (i0 : Int) (s1 : ByteArray) (s2 : ByteArray)  : IsProblem [.int .i64 i0, .str s1, .str s2]
theorem IsProblem.ex {ls : List (Leaf false)} (h : IsProblem ls) : ∃ (i0 : Int) (s1 : ByteArray) (s2 : ByteArray), ls = [.int .i64 i0, .str s1, .str s2] := by
  cases h with
  | mk i0 s1 s2  => exact ⟨i0, s1, s2, rfl⟩
theorem IsProblem.len {ls : List (Leaf false)} (h : IsProblem ls) : ls.length = 3 := by cases h; rfl

theorem IsType.st {e : El} (h : IsType e) : ∃ x : R_ss, e = x.l ∧ IsType x.l := by
  cases h with
  | mk s0 s1 h0 h1 => exact ⟨⟨s0, s1⟩, rfl, .mk s0 s1 h0 h1⟩
theorem IsType.of {e : El} (h : IsType e) : (R_ss.of e).l = e := by obtain ⟨x, rfl, _⟩ := h.st; rfl
theorem IsType.nosl {e : El} (h : IsType e) : e.all noSl = true := by obtain ⟨x, rfl, _⟩ := h.st; rfl
theorem IsType.p {x : R_ss} (h : IsType x.l) : (x.a0.size ≤ maxLen) ∧ (x.a1.size ≤ maxLen) := by
  obtain ⟨s0, s1⟩ := x
  have h1 : IsType [.str s0, .str s1] := h
  cases h1 with
  | mk _ _ h0 h1 => exact ⟨h0, h1⟩
theorem IsValue.st {e : El} (h : IsValue e) : ∃ x : R_isee, e = x.l ∧ IsValue x.l := by
  cases h with
  | mk i0 s1 e2 e3 h1 h2 q2 h3 q3 => exact ⟨⟨i0, s1, e2, e3⟩, rfl, .mk i0 s1 e2 e3 h1 h2 q2 h3 q3⟩
theorem IsValue.of {e : El} (h : IsValue e) : (R_isee.of e).l = e := by obtain ⟨x, rfl, _⟩ := h.st; rfl
theorem IsValue.p {x : R_isee} (h : IsValue x.l) : (x.a1.size ≤ maxLen) ∧ (x.a2.length ≤ maxLen) ∧ (∀ e ∈ x.a2, IsValue e) ∧ (x.a3.length ≤ maxLen) ∧ (∀ e ∈ x.a3, IsStr e) := by
  obtain ⟨i0, s1, e2, e3⟩ := x
  have h1 : IsValue [.int .i64 i0, .str s1, .sl fP e2, .sl fP e3] := h
  cases h1 with
  | mk _ _ _ _ h1 h2 q2 h3 q3 => exact ⟨h1, h2, q2, h3, q3⟩
theorem IsArg.st {e : El} (h : IsArg e) : ∃ x : R_sisee, e = x.l ∧ IsArg x.l := by
  cases h with
  | mk s0 i1 s2 e3 e4 h0 h2 h3 q3 h4 q4 => exact ⟨⟨s0, i1, s2, e3, e4⟩, rfl, .mk s0 i1 s2 e3 e4 h0 h2 h3 q3 h4 q4⟩
theorem IsArg.of {e : El} (h : IsArg e) : (R_sisee.of e).l = e := by obtain ⟨x, rfl, _⟩ := h.st; rfl
theorem IsArg.p {x : R_sisee} (h : IsArg x.l) : (x.a0.size ≤ maxLen) ∧ (x.a2.size ≤ maxLen) ∧ (x.a3.length ≤ maxLen) ∧ (∀ e ∈ x.a3, IsValue e) ∧ (x.a4.length ≤ maxLen) ∧ (∀ e ∈ x.a4, IsStr e) := by
  obtain ⟨s0, i1, s2, e3, e4⟩ := x
  have h1 : IsArg [.str s0, .int .i64 i1, .str s2, .sl fP e3, .sl fP e4] := h
  cases h1 with
  | mk _ _ _ _ _ h0 h2 h3 q3 h4 q4 => exact ⟨h0, h2, h3, q3, h4, q4⟩
theorem IsDir.st {e : El} (h : IsDir e) : ∃ x : R_se, e = x.l ∧ IsDir x.l := by
  cases h with
  | mk s0 e1 h0 h1 q1 => exact ⟨⟨s0, e1⟩, rfl, .mk s0 e1 h0 h1 q1⟩
theorem IsDir.of {e : El} (h : IsDir e) : (R_se.of e).l = e := by obtain ⟨x, rfl, _⟩ := h.st; rfl
theorem IsDir.p {x : R_se} (h : IsDir x.l) : (x.a0.size ≤ maxLen) ∧ (x.a1.length ≤ maxLen) ∧ (∀ e ∈ x.a1, IsArg e) := by
  obtain ⟨s0, e1⟩ := x
  have h1 : IsDir [.str s0, .sl fP e1] := h
  cases h1 with
  | mk _ _ h0 h1 q1 => exact ⟨h0, h1, q1⟩
theorem IsInDef.st {e : El} (h : IsInDef e) : ∃ x : R_ssssbiseee, e = x.l ∧ IsInDef x.l := by
  cases h with
  | mk s0 s1 s2 s3 b4 i5 s6 e7 e8 e9 h0 h1 h2 h3 h6 h7 q7 h8 q8 h9 q9 => exact ⟨⟨s0, s1, s2, s3, b4, i5, s6, e7, e8, e9⟩, rfl, .mk s0 s1 s2 s3 b4 i5 s6 e7 e8 e9 h0 h1 h2 h3 h6 h7 q7 h8 q8 h9 q9⟩
theorem IsInDef.of {e : El} (h : IsInDef e) : (R_ssssbiseee.of e).l = e := by obtain ⟨x, rfl, _⟩ := h.st; rfl
theorem IsInDef.p {x : R_ssssbiseee} (h : IsInDef x.l) : (x.a0.size ≤ maxLen) ∧ (x.a1.size ≤ maxLen) ∧ (x.a2.size ≤ maxLen) ∧ (x.a3.size ≤ maxLen) ∧ (x.a6.size ≤ maxLen) ∧ (x.a7.length ≤ maxLen) ∧ (∀ e ∈ x.a7, IsValue e) ∧ (x.a8.length ≤ maxLen) ∧ (∀ e ∈ x.a8, IsStr e) ∧ (x.a9.length ≤ maxLen) ∧ (∀ e ∈ x.a9, IsDir e) := by
  obtain ⟨s0, s1, s2, s3, b4, i5, s6, e7, e8, e9⟩ := x
  have h1 : IsInDef [.str s0, .str s1, .str s2, .str s3, .bool b4, .int .i64 i5, .str s6, .sl fP e7, .sl fP e8, .sl fP e9] := h
  cases h1 with
  | mk _ _ _ _ _ _ _ _ _ _ h0 h1 h2 h3 h6 h7 q7 h8 q8 h9 q9 => exact ⟨h0, h1, h2, h3, h6, h7, q7, h8, q8, h9, q9⟩
theorem IsFieldDef.st {e : El} (h : IsFieldDef e) : ∃ x : R_ssesse, e = x.l ∧ IsFieldDef x.l := by
  cases h with
  | mk s0 s1 e2 s3 s4 e5 h0 h1 h2 q2 h3 h4 h5 q5 => exact ⟨⟨s0, s1, e2, s3, s4, e5⟩, rfl, .mk s0 s1 e2 s3 s4 e5 h0 h1 h2 q2 h3 h4 h5 q5⟩
theorem IsFieldDef.of {e : El} (h : IsFieldDef e) : (R_ssesse.of e).l = e := by obtain ⟨x, rfl, _⟩ := h.st; rfl
theorem IsFieldDef.p {x : R_ssesse} (h : IsFieldDef x.l) : (x.a0.size ≤ maxLen) ∧ (x.a1.size ≤ maxLen) ∧ (x.a2.length ≤ maxLen) ∧ (∀ e ∈ x.a2, IsInDef e) ∧ (x.a3.size ≤ maxLen) ∧ (x.a4.size ≤ maxLen) ∧ (x.a5.length ≤ maxLen) ∧ (∀ e ∈ x.a5, IsDir e) := by
  obtain ⟨s0, s1, e2, s3, s4, e5⟩ := x
  have h1 : IsFieldDef [.str s0, .str s1, .sl fP e2, .str s3, .str s4, .sl fP e5] := h
  cases h1 with
  | mk _ _ _ _ _ _ h0 h1 h2 q2 h3 h4 h5 q5 => exact ⟨h0, h1, h2, q2, h3, h4, h5, q5⟩
theorem IsEnumDef.st {e : El} (h : IsEnumDef e) : ∃ x : R_sse, e = x.l ∧ IsEnumDef x.l := by
  cases h with
  | mk s0 s1 e2 h0 h1 h2 q2 => exact ⟨⟨s0, s1, e2⟩, rfl, .mk s0 s1 e2 h0 h1 h2 q2⟩
theorem IsEnumDef.of {e : El} (h : IsEnumDef e) : (R_sse.of e).l = e := by obtain ⟨x, rfl, _⟩ := h.st; rfl
theorem IsEnumDef.p {x : R_sse} (h : IsEnumDef x.l) : (x.a0.size ≤ maxLen) ∧ (x.a1.size ≤ maxLen) ∧ (x.a2.length ≤ maxLen) ∧ (∀ e ∈ x.a2, IsDir e) := by
  obtain ⟨s0, s1, e2⟩ := x
  have h1 : IsEnumDef [.str s0, .str s1, .sl fP e2] := h
  cases h1 with
  | mk _ _ _ h0 h1 h2 q2 => exact ⟨h0, h1, h2, q2⟩
theorem IsRoot.st {e : El} (h : IsRoot e) : ∃ x : R_is, e = x.l ∧ IsRoot x.l := by
  cases h with
  | mk i0 s1 h1 => exact ⟨⟨i0, s1⟩, rfl, .mk i0 s1 h1⟩
theorem IsRoot.of {e : El} (h : IsRoot e) : (R_is.of e).l = e := by obtain ⟨x, rfl, _⟩ := h.st; rfl
theorem IsRoot.nosl {e : El} (h : IsRoot e) : e.all noSl = true := by obtain ⟨x, rfl, _⟩ := h.st; rfl
theorem IsRoot.p {x : R_is} (h : IsRoot x.l) : (x.a1.size ≤ maxLen) := by
  obtain ⟨i0, s1⟩ := x
  have h1 : IsRoot [.int .i64 i0, .str s1] := h
  cases h1 with
  | mk _ _ h1 => exact h1
theorem IsDef.st {e : El} (h : IsDef e) : ∃ x : R_ibsseeeeebe, e = x.l ∧ IsDef x.l := by
  cases h with
  | mk i0 b1 s2 s3 e4 e5 e6 e7 e8 b9 e10 h2 h3 h4 q4 h5 q5 h6 q6 h7 q7 h8 q8 h10 q10 => exact ⟨⟨i0, b1, s2, s3, e4, e5, e6, e7, e8, b9, e10⟩, rfl, .mk i0 b1 s2 s3 e4 e5 e6 e7 e8 b9 e10 h2 h3 h4 q4 h5 q5 h6 q6 h7 q7 h8 q8 h10 q10⟩
theorem IsDef.of {e : El} (h : IsDef e) : (R_ibsseeeeebe.of e).l = e := by obtain ⟨x, rfl, _⟩ := h.st; rfl
theorem IsDef.p {x : R_ibsseeeeebe} (h : IsDef x.l) : (x.a2.size ≤ maxLen) ∧ (x.a3.size ≤ maxLen) ∧ (x.a4.length ≤ maxLen) ∧ (∀ e ∈ x.a4, IsStr e) ∧ (x.a5.length ≤ maxLen) ∧ (∀ e ∈ x.a5, IsFieldDef e) ∧ (x.a6.length ≤ maxLen) ∧ (∀ e ∈ x.a6, IsInDef e) ∧ (x.a7.length ≤ maxLen) ∧ (∀ e ∈ x.a7, IsEnumDef e) ∧ (x.a8.length ≤ maxLen) ∧ (∀ e ∈ x.a8, IsRoot e) ∧ (x.a10.length ≤ maxLen) ∧ (∀ e ∈ x.a10, IsDir e) := by
  obtain ⟨i0, b1, s2, s3, e4, e5, e6, e7, e8, b9, e10⟩ := x
  have h1 : IsDef [.int .i64 i0, .bool b1, .str s2, .str s3, .sl fP e4, .sl fP e5, .sl fP e6, .sl fP e7, .sl fP e8, .bool b9, .sl fP e10] := h
  cases h1 with
  | mk _ _ _ _ _ _ _ _ _ _ _ h2 h3 h4 q4 h5 q5 h6 q6 h7 q7 h8 q8 h10 q10 => exact ⟨h2, h3, h4, q4, h5, q5, h6, q6, h7, q7, h8, q8, h10, q10⟩
theorem IsSchema.st {e : El} (h : IsSchema e) : ∃ x : R_eee, e = x.l ∧ IsSchema x.l := by
  cases h with
  | mk e0 e1 e2 h0 q0 h1 q1 h2 q2 => exact ⟨⟨e0, e1, e2⟩, rfl, .mk e0 e1 e2 h0 q0 h1 q1 h2 q2⟩
theorem IsSchema.of {e : El} (h : IsSchema e) : (R_eee.of e).l = e := by obtain ⟨x, rfl, _⟩ := h.st; rfl
theorem IsSchema.p {x : R_eee} (h : IsSchema x.l) : (x.a0.length ≤ maxLen) ∧ (∀ e ∈ x.a0, IsDef e) ∧ (x.a1.length ≤ maxLen) ∧ (∀ e ∈ x.a1, IsDef e) ∧ (x.a2.length ≤ maxLen) ∧ (∀ e ∈ x.a2, IsRoot e) := by
  obtain ⟨e0, e1, e2⟩ := x
  have h1 : IsSchema [.sl fP e0, .sl fP e1, .sl fP e2] := h
  cases h1 with
  | mk _ _ _ h0 q0 h1 q1 h2 q2 => exact ⟨h0, q0, h1, q1, h2, q2⟩
theorem IsProblem.st {e : El} (h : IsProblem e) : ∃ x : R_iss, e = x.l ∧ IsProblem x.l := by
  cases h with
  | mk i0 s1 s2 => exact ⟨⟨i0, s1, s2⟩, rfl, .mk i0 s1 s2⟩
theorem IsProblem.of {e : El} (h : IsProblem e) : (R_iss.of e).l = e := by obtain ⟨x, rfl, _⟩ := h.st; rfl
theorem IsProblem.nosl {e : El} (h : IsProblem e) : e.all noSl = true := by obtain ⟨x, rfl, _⟩ := h.st; rfl

end Go.Vs
end
section
open Go Go.Vs Go.Proofs
set_option linter.unusedVariables false
set_option linter.unusedSimpArgs false
namespace Go.Vs
theorem laws_szStringS_from {es : List (List (Leaf false))} (hl : es.length ≤ maxLen) (hq : ∀ e ∈ es, IsStr e) : ∀ i : Nat, i ≤ es.length → ∀ n : Int, 0 ≤ n →
    laws_szStringS_A Dn (laws_szStringS_0 es n i) = some (vint (szE (es.drop i) n), []) := by
  refine upto_ind ?_ ?_
  · intro n hn; rw [laws_szStringS_0_eq]; simp [szE]
  · intro i hi ih n hn
    obtain ⟨s, he, hs⟩ := hq _ (List.getElem_mem hi)
    rw [laws_szStringS_0_eq, drop_at hi]
    simp only [Int.ofNat_lt, hi, decide_true, branch_true, Int.natCast_nonneg, Bool.and_true, Int.toNat_natCast, guarded_true, wrap_upL (Nat.lt_of_lt_of_le hi hl), sized_all (fun e he => (hq e he).len), getD_lt hi]
    rw [he]
    simp only [atK_zero, strK_str]
    exact sz_nextS fun hk => ih _ hk
theorem d_laws_szStringS {es : List (List (Leaf false))} (hl : es.length ≤ maxLen) (hq : ∀ e ∈ es, IsStr e) {n : Int} (hn : 0 ≤ n) :
    Dn F.laws_szStringS [vsl es, vint n] [] = some (vint (szF (.sl fP es) n), []) := by
  refine den_of ?_
  rw [run_laws_szStringS]
  refine sz_len fun hk => ?_
  have := laws_szStringS_from hl hq 0 (Nat.zero_le _) _ hk
  simpa using this
theorem d_laws_szType {ls : List (Leaf false)} (h : IsType ls) : ∀ {n : Int}, 0 ≤ n → Dn F.laws_szType [.agg ls, vint n] [] = some (vint (szL ls n), []) := by
  cases h with
  | mk s0 s1 h0 h1 =>
    intro n hn
    refine den_of ?_
    rw [run_laws_szType]
    refine sz_str fun hn => ?_
    refine sz_str fun hn => ?_
    rfl
theorem laws_szValueS_from {es : List (List (Leaf false))} (hl : es.length ≤ maxLen) (hq : ∀ e ∈ es, IsValue e) (hd : ∀ e ∈ es, ∀ n : Int, 0 ≤ n → Dn F.laws_szValue [.agg e, vint n] [] = some (vint (szL e n), [])) : ∀ i : Nat, i ≤ es.length → ∀ n : Int, 0 ≤ n →
    laws_szValueS_A Dn (laws_szValueS_0 es n i) = some (vint (szE (es.drop i) n), []) := by
  refine upto_ind ?_ ?_
  · intro n hn; rw [laws_szValueS_0_eq]; simp [szE]
  · intro i hi ih n hn
    have hci := hd _ (List.getElem_mem hi) n hn
    obtain ⟨i0, s1, e2, e3, he, h1, h2, q2, h3, q3⟩ := (hq _ (List.getElem_mem hi)).ex
    rw [laws_szValueS_0_eq, drop_at hi]
    simp only [Int.ofNat_lt, hi, decide_true, branch_true, Int.natCast_nonneg, Bool.and_true, Int.toNat_natCast, guarded_true, wrap_upL (Nat.lt_of_lt_of_le hi hl), sized_all (fun e he => (hq e he).len), getD_lt hi]
    rw [he] at hci ⊢
    simp only [bindE_eq, atK_zero, atK_succ, intK_int, strK_str, boolK_bool, slK_sl]
    exact sz_next hci fun k hk => ih k hk
theorem d_laws_szValueS_of {es : List (List (Leaf false))} (hl : es.length ≤ maxLen) (hq : ∀ e ∈ es, IsValue e) (hd : ∀ e ∈ es, ∀ n : Int, 0 ≤ n → Dn F.laws_szValue [.agg e, vint n] [] = some (vint (szL e n), [])) {n : Int} (hn : 0 ≤ n) :
    Dn F.laws_szValueS [vsl es, vint n] [] = some (vint (szF (.sl fP es) n), []) := by
  refine den_of ?_
  rw [run_laws_szValueS]
  refine sz_len fun hk => ?_
  have := laws_szValueS_from hl hq hd 0 (Nat.zero_le _) _ hk
  simpa using this
theorem d_laws_szValue {ls : List (Leaf false)} (h : IsValue ls) : ∀ {n : Int}, 0 ≤ n → Dn F.laws_szValue [.agg ls, vint n] [] = some (vint (szL ls n), []) := by
  induction h with
  | mk i0 s1 e2 e3 h1 h2 q2 h3 q3 ih2 =>
    intro n hn
    refine den_of ?_
    rw [run_laws_szValue]
    refine sz_int hn ?_
    refine sz_str fun hn => ?_
    refine sz_callS (d_laws_szValueS_of h2 q2 (fun e he n hn => ih2 e he hn) hn) fun k hn => ?_
    refine sz_callS (d_laws_szStringS h3 q3 hn) fun k hn => ?_
    rfl
theorem d_laws_szValueS {es : List (List (Leaf false))} (hl : es.length ≤ maxLen) (hq : ∀ e ∈ es, IsValue e) {n : Int} (hn : 0 ≤ n) : Dn F.laws_szValueS [vsl es, vint n] [] = some (vint (szF (.sl fP es) n), []) := d_laws_szValueS_of hl hq (fun e he n hn => d_laws_szValue (hq e he) hn) hn
theorem laws_szArgS_from {es : List (List (Leaf false))} (hl : es.length ≤ maxLen) (hq : ∀ e ∈ es, IsArg e) (hd : ∀ e ∈ es, ∀ n : Int, 0 ≤ n → Dn F.laws_szArg [.agg e, vint n] [] = some (vint (szL e n), [])) : ∀ i : Nat, i ≤ es.length → ∀ n : Int, 0 ≤ n →
    laws_szArgS_A Dn (laws_szArgS_0 es n i) = some (vint (szE (es.drop i) n), []) := by
  refine upto_ind ?_ ?_
  · intro n hn; rw [laws_szArgS_0_eq]; simp [szE]
  · intro i hi ih n hn
    have hci := hd _ (List.getElem_mem hi) n hn
    obtain ⟨s0, i1, s2, e3, e4, he, h0, h2, h3, q3, h4, q4⟩ := (hq _ (List.getElem_mem hi)).ex
    rw [laws_szArgS_0_eq, drop_at hi]
    simp only [Int.ofNat_lt, hi, decide_true, branch_true, Int.natCast_nonneg, Bool.and_true, Int.toNat_natCast, guarded_true, wrap_upL (Nat.lt_of_lt_of_le hi hl), sized_all (fun e he => (hq e he).len), getD_lt hi]
    rw [he] at hci ⊢
    simp only [bindE_eq, atK_zero, atK_succ, intK_int, strK_str, boolK_bool, slK_sl]
    exact sz_next hci fun k hk => ih k hk
theorem d_laws_szArgS_of {es : List (List (Leaf false))} (hl : es.length ≤ maxLen) (hq : ∀ e ∈ es, IsArg e) (hd : ∀ e ∈ es, ∀ n : Int, 0 ≤ n → Dn F.laws_szArg [.agg e, vint n] [] = some (vint (szL e n), [])) {n : Int} (hn : 0 ≤ n) :
    Dn F.laws_szArgS [vsl es, vint n] [] = some (vint (szF (.sl fP es) n), []) := by
  refine den_of ?_
  rw [run_laws_szArgS]
  refine sz_len fun hk => ?_
  have := laws_szArgS_from hl hq hd 0 (Nat.zero_le _) _ hk
  simpa using this
theorem d_laws_szArg {ls : List (Leaf false)} (h : IsArg ls) : ∀ {n : Int}, 0 ≤ n → Dn F.laws_szArg [.agg ls, vint n] [] = some (vint (szL ls n), []) := by
  cases h with
  | mk s0 i1 s2 e3 e4 h0 h2 h3 q3 h4 q4 =>
    intro n hn
    refine den_of ?_
    rw [run_laws_szArg]
    refine sz_str fun hn => ?_
    refine sz_call (a := [.int .i64 i1, .str s2, .sl fP e3, .sl fP e4]) (d_laws_szValue (.mk i1 s2 e3 e4 h2 h3 q3 h4 q4) hn) hn fun k hn => ?_
    rfl
theorem d_laws_szArgS {es : List (List (Leaf false))} (hl : es.length ≤ maxLen) (hq : ∀ e ∈ es, IsArg e) {n : Int} (hn : 0 ≤ n) : Dn F.laws_szArgS [vsl es, vint n] [] = some (vint (szF (.sl fP es) n), []) := d_laws_szArgS_of hl hq (fun e he n hn => d_laws_szArg (hq e he) hn) hn
theorem laws_szDirS_from {es : List (List (Leaf false))} (hl : es.length ≤ maxLen) (hq : ∀ e ∈ es, IsDir e) (hd : ∀ e ∈ es, ∀ n : Int, 0 ≤ n → Dn F.laws_szDir [.agg e, vint n] [] = some (vint (szL e n), [])) : ∀ i : Nat, i ≤ es.length → ∀ n : Int, 0 ≤ n →
    laws_szDirS_A Dn (laws_szDirS_0 es n i) = some (vint (szE (es.drop i) n), []) := by
  refine upto_ind ?_ ?_
  · intro n hn; rw [laws_szDirS_0_eq]; simp [szE]
  · intro i hi ih n hn
    have hci := hd _ (List.getElem_mem hi) n hn
    obtain ⟨s0, e1, he, h0, h1, q1⟩ := (hq _ (List.getElem_mem hi)).ex
    rw [laws_szDirS_0_eq, drop_at hi]
    simp only [Int.ofNat_lt, hi, decide_true, branch_true, Int.natCast_nonneg, Bool.and_true, Int.toNat_natCast, guarded_true, wrap_upL (Nat.lt_of_lt_of_le hi hl), sized_all (fun e he => (hq e he).len), getD_lt hi]
    rw [he] at hci ⊢
    simp only [bindE_eq, atK_zero, atK_succ, intK_int, strK_str, boolK_bool, slK_sl]
    exact sz_next hci fun k hk => ih k hk
theorem d_laws_szDirS_of {es : List (List (Leaf false))} (hl : es.length ≤ maxLen) (hq : ∀ e ∈ es, IsDir e) (hd : ∀ e ∈ es, ∀ n : Int, 0 ≤ n → Dn F.laws_szDir [.agg e, vint n] [] = some (vint (szL e n), [])) {n : Int} (hn : 0 ≤ n) :
    Dn F.laws_szDirS [vsl es, vint n] [] = some (vint (szF (.sl fP es) n), []) := by
  refine den_of ?_
  rw [run_laws_szDirS]
  refine sz_len fun hk => ?_
  have := laws_szDirS_from hl hq hd 0 (Nat.zero_le _) _ hk
  simpa using this
theorem d_laws_szDir {ls : List (Leaf false)} (h : IsDir ls) : ∀ {n : Int}, 0 ≤ n → Dn F.laws_szDir [.agg ls, vint n] [] = some (vint (szL ls n), []) := by
  cases h with
  | mk s0 e1 h0 h1 q1 =>
    intro n hn
    refine den_of ?_
    rw [run_laws_szDir]
    refine sz_str fun hn => ?_
    refine sz_callS (d_laws_szArgS h1 q1 hn) fun k hn => ?_
    rfl
theorem d_laws_szDirS {es : List (List (Leaf false))} (hl : es.length ≤ maxLen) (hq : ∀ e ∈ es, IsDir e) {n : Int} (hn : 0 ≤ n) : Dn F.laws_szDirS [vsl es, vint n] [] = some (vint (szF (.sl fP es) n), []) := d_laws_szDirS_of hl hq (fun e he n hn => d_laws_szDir (hq e he) hn) hn
theorem laws_szInDefS_from {es : List (List (Leaf false))} (hl : es.length ≤ maxLen) (hq : ∀ e ∈ es, IsInDef e) (hd : ∀ e ∈ es, ∀ n : Int, 0 ≤ n → Dn F.laws_szInDef [.agg e, vint n] [] = some (vint (szL e n), [])) : ∀ i : Nat, i ≤ es.length → ∀ n : Int, 0 ≤ n →
    laws_szInDefS_A Dn (laws_szInDefS_0 es n i) = some (vint (szE (es.drop i) n), []) := by
  refine upto_ind ?_ ?_
  · intro n hn; rw [laws_szInDefS_0_eq]; simp [szE]
  · intro i hi ih n hn
    have hci := hd _ (List.getElem_mem hi) n hn
    obtain ⟨s0, s1, s2, s3, b4, i5, s6, e7, e8, e9, he, h0, h1, h2, h3, h6, h7, q7, h8, q8, h9, q9⟩ := (hq _ (List.getElem_mem hi)).ex
    rw [laws_szInDefS_0_eq, drop_at hi]
    simp only [Int.ofNat_lt, hi, decide_true, branch_true, Int.natCast_nonneg, Bool.and_true, Int.toNat_natCast, guarded_true, wrap_upL (Nat.lt_of_lt_of_le hi hl), sized_all (fun e he => (hq e he).len), getD_lt hi]
    rw [he] at hci ⊢
    simp only [bindE_eq, atK_zero, atK_succ, intK_int, strK_str, boolK_bool, slK_sl]
    exact sz_next hci fun k hk => ih k hk
theorem d_laws_szInDefS_of {es : List (List (Leaf false))} (hl : es.length ≤ maxLen) (hq : ∀ e ∈ es, IsInDef e) (hd : ∀ e ∈ es, ∀ n : Int, 0 ≤ n → Dn F.laws_szInDef [.agg e, vint n] [] = some (vint (szL e n), [])) {n : Int} (hn : 0 ≤ n) :
    Dn F.laws_szInDefS [vsl es, vint n] [] = some (vint (szF (.sl fP es) n), []) := by
  refine den_of ?_
  rw [run_laws_szInDefS]
  refine sz_len fun hk => ?_
  have := laws_szInDefS_from hl hq hd 0 (Nat.zero_le _) _ hk
  simpa using this
theorem d_laws_szInDef {ls : List (Leaf false)} (h : IsInDef ls) : ∀ {n : Int}, 0 ≤ n → Dn F.laws_szInDef [.agg ls, vint n] [] = some (vint (szL ls n), []) := by
  cases h with
  | mk s0 s1 s2 s3 b4 i5 s6 e7 e8 e9 h0 h1 h2 h3 h6 h7 q7 h8 q8 h9 q9 =>
    intro n hn
    refine den_of ?_
    rw [run_laws_szInDef]
    refine sz_str fun hn => ?_
    refine sz_str fun hn => ?_
    refine sz_call (a := [.str s2, .str s3]) (d_laws_szType (.mk s2 s3 h2 h3) hn) hn fun k hn => ?_
    refine sz_bool hn ?_
    refine sz_call (a := [.int .i64 i5, .str s6, .sl fP e7, .sl fP e8]) (d_laws_szValue (.mk i5 s6 e7 e8 h6 h7 q7 h8 q8) hn) hn fun k hn => ?_
    refine sz_callS (d_laws_szDirS h9 q9 hn) fun k hn => ?_
    rfl
theorem d_laws_szInDefS {es : List (List (Leaf false))} (hl : es.length ≤ maxLen) (hq : ∀ e ∈ es, IsInDef e) {n : Int} (hn : 0 ≤ n) : Dn F.laws_szInDefS [vsl es, vint n] [] = some (vint (szF (.sl fP es) n), []) := d_laws_szInDefS_of hl hq (fun e he n hn => d_laws_szInDef (hq e he) hn) hn
theorem laws_szFieldDefS_from {es : List (List (Leaf false))} (hl : es.length ≤ maxLen) (hq : ∀ e ∈ es, IsFieldDef e) (hd : ∀ e ∈ es, ∀ n : Int, 0 ≤ n → Dn F.laws_szFieldDef [.agg e, vint n] [] = some (vint (szL e n), [])) : ∀ i : Nat, i ≤ es.length → ∀ n : Int, 0 ≤ n →
    laws_szFieldDefS_A Dn (laws_szFieldDefS_0 es n i) = some (vint (szE (es.drop i) n), []) := by
  refine upto_ind ?_ ?_
  · intro n hn; rw [laws_szFieldDefS_0_eq]; simp [szE]
  · intro i hi ih n hn
    have hci := hd _ (List.getElem_mem hi) n hn
    obtain ⟨s0, s1, e2, s3, s4, e5, he, h0, h1, h2, q2, h3, h4, h5, q5⟩ := (hq _ (List.getElem_mem hi)).ex
    rw [laws_szFieldDefS_0_eq, drop_at hi]
    simp only [Int.ofNat_lt, hi, decide_true, branch_true, Int.natCast_nonneg, Bool.and_true, Int.toNat_natCast, guarded_true, wrap_upL (Nat.lt_of_lt_of_le hi hl), sized_all (fun e he => (hq e he).len), getD_lt hi]
    rw [he] at hci ⊢
    simp only [bindE_eq, atK_zero, atK_succ, intK_int, strK_str, boolK_bool, slK_sl]
    exact sz_next hci fun k hk => ih k hk
theorem d_laws_szFieldDefS_of {es : List (List (Leaf false))} (hl : es.length ≤ maxLen) (hq : ∀ e ∈ es, IsFieldDef e) (hd : ∀ e ∈ es, ∀ n : Int, 0 ≤ n → Dn F.laws_szFieldDef [.agg e, vint n] [] = some (vint (szL e n), [])) {n : Int} (hn : 0 ≤ n) :
    Dn F.laws_szFieldDefS [vsl es, vint n] [] = some (vint (szF (.sl fP es) n), []) := by
  refine den_of ?_
  rw [run_laws_szFieldDefS]
  refine sz_len fun hk => ?_
  have := laws_szFieldDefS_from hl hq hd 0 (Nat.zero_le _) _ hk
  simpa using this
theorem d_laws_szFieldDef {ls : List (Leaf false)} (h : IsFieldDef ls) : ∀ {n : Int}, 0 ≤ n → Dn F.laws_szFieldDef [.agg ls, vint n] [] = some (vint (szL ls n), []) := by
  cases h with
  | mk s0 s1 e2 s3 s4 e5 h0 h1 h2 q2 h3 h4 h5 q5 =>
    intro n hn
    refine den_of ?_
    rw [run_laws_szFieldDef]
    refine sz_str fun hn => ?_
    refine sz_str fun hn => ?_
    refine sz_callS (d_laws_szInDefS h2 q2 hn) fun k hn => ?_
    refine sz_call (a := [.str s3, .str s4]) (d_laws_szType (.mk s3 s4 h3 h4) hn) hn fun k hn => ?_
    refine sz_callS (d_laws_szDirS h5 q5 hn) fun k hn => ?_
    rfl
theorem d_laws_szFieldDefS {es : List (List (Leaf false))} (hl : es.length ≤ maxLen) (hq : ∀ e ∈ es, IsFieldDef e) {n : Int} (hn : 0 ≤ n) : Dn F.laws_szFieldDefS [vsl es, vint n] [] = some (vint (szF (.sl fP es) n), []) := d_laws_szFieldDefS_of hl hq (fun e he n hn => d_laws_szFieldDef (hq e he) hn) hn
theorem laws_szEnumDefS_from {es : List (List (Leaf false))} (hl : es.length ≤ maxLen) (hq : ∀ e ∈ es, IsEnumDef e) (hd : ∀ e ∈ es, ∀ n : Int, 0 ≤ n → Dn F.laws_szEnumDef [.agg e, vint n] [] = some (vint (szL e n), [])) : ∀ i : Nat, i ≤ es.length → ∀ n : Int, 0 ≤ n →
    laws_szEnumDefS_A Dn (laws_szEnumDefS_0 es n i) = some (vint (szE (es.drop i) n), []) := by
  refine upto_ind ?_ ?_
  · intro n hn; rw [laws_szEnumDefS_0_eq]; simp [szE]
  · intro i hi ih n hn
    have hci := hd _ (List.getElem_mem hi) n hn
    obtain ⟨s0, s1, e2, he, h0, h1, h2, q2⟩ := (hq _ (List.getElem_mem hi)).ex
    rw [laws_szEnumDefS_0_eq, drop_at hi]
    simp only [Int.ofNat_lt, hi, decide_true, branch_true, Int.natCast_nonneg, Bool.and_true, Int.toNat_natCast, guarded_true, wrap_upL (Nat.lt_of_lt_of_le hi hl), sized_all (fun e he => (hq e he).len), getD_lt hi]
    rw [he] at hci ⊢
    simp only [bindE_eq, atK_zero, atK_succ, intK_int, strK_str, boolK_bool, slK_sl]
    exact sz_next hci fun k hk => ih k hk
theorem d_laws_szEnumDefS_of {es : List (List (Leaf false))} (hl : es.length ≤ maxLen) (hq : ∀ e ∈ es, IsEnumDef e) (hd : ∀ e ∈ es, ∀ n : Int, 0 ≤ n → Dn F.laws_szEnumDef [.agg e, vint n] [] = some (vint (szL e n), [])) {n : Int} (hn : 0 ≤ n) :
    Dn F.laws_szEnumDefS [vsl es, vint n] [] = some (vint (szF (.sl fP es) n), []) := by
  refine den_of ?_
  rw [run_laws_szEnumDefS]
  refine sz_len fun hk => ?_
  have := laws_szEnumDefS_from hl hq hd 0 (Nat.zero_le _) _ hk
  simpa using this
theorem d_laws_szEnumDef {ls : List (Leaf false)} (h : IsEnumDef ls) : ∀ {n : Int}, 0 ≤ n → Dn F.laws_szEnumDef [.agg ls, vint n] [] = some (vint (szL ls n), []) := by
  cases h with
  | mk s0 s1 e2 h0 h1 h2 q2 =>
    intro n hn
    refine den_of ?_
    rw [run_laws_szEnumDef]
    refine sz_str fun hn => ?_
    refine sz_str fun hn => ?_
    refine sz_callS (d_laws_szDirS h2 q2 hn) fun k hn => ?_
    rfl
theorem d_laws_szEnumDefS {es : List (List (Leaf false))} (hl : es.length ≤ maxLen) (hq : ∀ e ∈ es, IsEnumDef e) {n : Int} (hn : 0 ≤ n) : Dn F.laws_szEnumDefS [vsl es, vint n] [] = some (vint (szF (.sl fP es) n), []) := d_laws_szEnumDefS_of hl hq (fun e he n hn => d_laws_szEnumDef (hq e he) hn) hn
theorem laws_szRootS_from {es : List (List (Leaf false))} (hl : es.length ≤ maxLen) (hq : ∀ e ∈ es, IsRoot e) (hd : ∀ e ∈ es, ∀ n : Int, 0 ≤ n → Dn F.laws_szRoot [.agg e, vint n] [] = some (vint (szL e n), [])) : ∀ i : Nat, i ≤ es.length → ∀ n : Int, 0 ≤ n →
    laws_szRootS_A Dn (laws_szRootS_0 es n i) = some (vint (szE (es.drop i) n), []) := by
  refine upto_ind ?_ ?_
  · intro n hn; rw [laws_szRootS_0_eq]; simp [szE]
  · intro i hi ih n hn
    have hci := hd _ (List.getElem_mem hi) n hn
    obtain ⟨i0, s1, he, h1⟩ := (hq _ (List.getElem_mem hi)).ex
    rw [laws_szRootS_0_eq, drop_at hi]
    simp only [Int.ofNat_lt, hi, decide_true, branch_true, Int.natCast_nonneg, Bool.and_true, Int.toNat_natCast, guarded_true, wrap_upL (Nat.lt_of_lt_of_le hi hl), sized_all (fun e he => (hq e he).len), getD_lt hi]
    rw [he] at hci ⊢
    simp only [bindE_eq, atK_zero, atK_succ, intK_int, strK_str, boolK_bool, slK_sl]
    exact sz_next hci fun k hk => ih k hk
theorem d_laws_szRootS_of {es : List (List (Leaf false))} (hl : es.length ≤ maxLen) (hq : ∀ e ∈ es, IsRoot e) (hd : ∀ e ∈ es, ∀ n : Int, 0 ≤ n → Dn F.laws_szRoot [.agg e, vint n] [] = some (vint (szL e n), [])) {n : Int} (hn : 0 ≤ n) :
    Dn F.laws_szRootS [vsl es, vint n] [] = some (vint (szF (.sl fP es) n), []) := by
  refine den_of ?_
  rw [run_laws_szRootS]
  refine sz_len fun hk => ?_
  have := laws_szRootS_from hl hq hd 0 (Nat.zero_le _) _ hk
  simpa using this
theorem d_laws_szRoot {ls : List (Leaf false)} (h : IsRoot ls) : ∀ {n : Int}, 0 ≤ n → Dn F.laws_szRoot [.agg ls, vint n] [] = some (vint (szL ls n), []) := by
  cases h with
  | mk i0 s1 h1 =>
    intro n hn
    refine den_of ?_
    rw [run_laws_szRoot]
    refine sz_int hn ?_
    refine sz_str fun hn => ?_
    rfl
theorem d_laws_szRootS {es : List (List (Leaf false))} (hl : es.length ≤ maxLen) (hq : ∀ e ∈ es, IsRoot e) {n : Int} (hn : 0 ≤ n) : Dn F.laws_szRootS [vsl es, vint n] [] = some (vint (szF (.sl fP es) n), []) := d_laws_szRootS_of hl hq (fun e he n hn => d_laws_szRoot (hq e he) hn) hn
theorem laws_szDefS_from {es : List (List (Leaf false))} (hl : es.length ≤ maxLen) (hq : ∀ e ∈ es, IsDef e) (hd : ∀ e ∈ es, ∀ n : Int, 0 ≤ n → Dn F.laws_szDef [.agg e, vint n] [] = some (vint (szL e n), [])) : ∀ i : Nat, i ≤ es.length → ∀ n : Int, 0 ≤ n →
    laws_szDefS_A Dn (laws_szDefS_0 es n i) = some (vint (szE (es.drop i) n), []) := by
  refine upto_ind ?_ ?_
  · intro n hn; rw [laws_szDefS_0_eq]; simp [szE]
  · intro i hi ih n hn
    have hci := hd _ (List.getElem_mem hi) n hn
    obtain ⟨i0, b1, s2, s3, e4, e5, e6, e7, e8, b9, e10, he, h2, h3, h4, q4, h5, q5, h6, q6, h7, q7, h8, q8, h10, q10⟩ := (hq _ (List.getElem_mem hi)).ex
    rw [laws_szDefS_0_eq, drop_at hi]
    simp only [Int.ofNat_lt, hi, decide_true, branch_true, Int.natCast_nonneg, Bool.and_true, Int.toNat_natCast, guarded_true, wrap_upL (Nat.lt_of_lt_of_le hi hl), sized_all (fun e he => (hq e he).len), getD_lt hi]
    rw [he] at hci ⊢
    simp only [bindE_eq, atK_zero, atK_succ, intK_int, strK_str, boolK_bool, slK_sl]
    exact sz_next hci fun k hk => ih k hk
theorem d_laws_szDefS_of {es : List (List (Leaf false))} (hl : es.length ≤ maxLen) (hq : ∀ e ∈ es, IsDef e) (hd : ∀ e ∈ es, ∀ n : Int, 0 ≤ n → Dn F.laws_szDef [.agg e, vint n] [] = some (vint (szL e n), [])) {n : Int} (hn : 0 ≤ n) :
    Dn F.laws_szDefS [vsl es, vint n] [] = some (vint (szF (.sl fP es) n), []) := by
  refine den_of ?_
  rw [run_laws_szDefS]
  refine sz_len fun hk => ?_
  have := laws_szDefS_from hl hq hd 0 (Nat.zero_le _) _ hk
  simpa using this
theorem d_laws_szDef {ls : List (Leaf false)} (h : IsDef ls) : ∀ {n : Int}, 0 ≤ n → Dn F.laws_szDef [.agg ls, vint n] [] = some (vint (szL ls n), []) := by
  cases h with
  | mk i0 b1 s2 s3 e4 e5 e6 e7 e8 b9 e10 h2 h3 h4 q4 h5 q5 h6 q6 h7 q7 h8 q8 h10 q10 =>
    intro n hn
    refine den_of ?_
    rw [run_laws_szDef]
    refine sz_int hn ?_
    refine sz_bool hn ?_
    refine sz_str fun hn => ?_
    refine sz_str fun hn => ?_
    refine sz_callS (d_laws_szStringS h4 q4 hn) fun k hn => ?_
    refine sz_callS (d_laws_szFieldDefS h5 q5 hn) fun k hn => ?_
    refine sz_callS (d_laws_szInDefS h6 q6 hn) fun k hn => ?_
    refine sz_callS (d_laws_szEnumDefS h7 q7 hn) fun k hn => ?_
    refine sz_callS (d_laws_szRootS h8 q8 hn) fun k hn => ?_
    refine sz_bool hn ?_
    refine sz_callS (d_laws_szDirS h10 q10 hn) fun k hn => ?_
    rfl
theorem d_laws_szDefS {es : List (List (Leaf false))} (hl : es.length ≤ maxLen) (hq : ∀ e ∈ es, IsDef e) {n : Int} (hn : 0 ≤ n) : Dn F.laws_szDefS [vsl es, vint n] [] = some (vint (szF (.sl fP es) n), []) := d_laws_szDefS_of hl hq (fun e he n hn => d_laws_szDef (hq e he) hn) hn
theorem d_laws_szSchema {ls : List (Leaf false)} (h : IsSchema ls) : ∀ {n : Int}, 0 ≤ n → Dn F.laws_szSchema [.agg ls, vint n] [] = some (vint (szL ls n), []) := by
  cases h with
  | mk e0 e1 e2 h0 q0 h1 q1 h2 q2 =>
    intro n hn
    refine den_of ?_
    rw [run_laws_szSchema]
    refine sz_callS (d_laws_szDefS h0 q0 hn) fun k hn => ?_
    refine sz_callS (d_laws_szDefS h1 q1 hn) fun k hn => ?_
    refine sz_callS (d_laws_szRootS h2 q2 hn) fun k hn => ?_
    rfl

end Go.Vs
end
section
open Go Go.Vs Go.Proofs
set_option linter.unusedVariables false
set_option linter.unusedSimpArgs false
namespace Go.Vs
theorem laws_eqStringS_from {es : List (List (Leaf false))} (hl : es.length ≤ maxLen) (hq : ∀ e ∈ es, IsStr e) : ∀ i : Nat, i ≤ es.length →
    laws_eqStringS_A Dn (laws_eqStringS_0 es es i) = some (vbool true, []) := by
  refine upto_ind ?_ ?_
  · rw [laws_eqStringS_0_eq]; simp
  · intro i hi ih
    obtain ⟨s, he, hs⟩ := hq _ (List.getElem_mem hi)
    rw [laws_eqStringS_0_eq]
    simp only [Int.ofNat_lt, hi, decide_true, branch_true, Int.natCast_nonneg, Bool.and_true, Int.toNat_natCast, guarded_true, wrap_upL (Nat.lt_of_lt_of_le hi hl), sized_all (fun e he => (hq e he).len), getD_lt hi]
    rw [he]
    simp only [atK_zero, strK_str, beq_self_eq_true, Bool.not_true, branch_false]
    exact ih
theorem d_laws_eqStringS {es : List (List (Leaf false))} (hl : es.length ≤ maxLen) (hq : ∀ e ∈ es, IsStr e) : Dn F.laws_eqStringS [vsl es, vsl es] [] = some (vbool true, []) := by
  refine den_of ?_
  rw [run_laws_eqStringS]
  have := laws_eqStringS_from hl hq 0 (Nat.zero_le _)
  simpa using this
theorem d_laws_eqType {ls : List (Leaf false)} (h : IsType ls) : Dn F.laws_eqType [.agg ls, .agg ls] [] = some (vbool true, []) := by
  cases h with
  | mk s0 s1 h0 h1 =>
    refine den_of ?_
    rw [run_laws_eqType]
    simp []
theorem laws_eqValueS_from {es : List (List (Leaf false))} (hl : es.length ≤ maxLen) (hq : ∀ e ∈ es, IsValue e) (hd : ∀ e ∈ es, Dn F.laws_eqValue [.agg e, .agg e] [] = some (vbool true, [])) : ∀ i : Nat, i ≤ es.length →
    laws_eqValueS_A Dn (laws_eqValueS_0 es es i) = some (vbool true, []) := by
  refine upto_ind ?_ ?_
  · rw [laws_eqValueS_0_eq]; simp
  · intro i hi ih
    have hci := hd _ (List.getElem_mem hi)
    obtain ⟨i0, s1, e2, e3, he, h1, h2, q2, h3, q3⟩ := (hq _ (List.getElem_mem hi)).ex
    rw [laws_eqValueS_0_eq]
    simp only [Int.ofNat_lt, hi, decide_true, branch_true, Int.natCast_nonneg, Bool.and_true, Int.toNat_natCast, guarded_true, wrap_upL (Nat.lt_of_lt_of_le hi hl), sized_all (fun e he => (hq e he).len), getD_lt hi]
    rw [he] at hci ⊢
    simp only [bindE_eq, atK_zero, atK_succ, intK_int, strK_str, boolK_bool, slK_sl, hci, Option.bind_some, svLeafK_leaf, Bool.not_true, branch_false]
    exact ih
theorem d_laws_eqValueS_of {es : List (List (Leaf false))} (hl : es.length ≤ maxLen) (hq : ∀ e ∈ es, IsValue e) (hd : ∀ e ∈ es, Dn F.laws_eqValue [.agg e, .agg e] [] = some (vbool true, [])) : Dn F.laws_eqValueS [vsl es, vsl es] [] = some (vbool true, []) := by
  refine den_of ?_
  rw [run_laws_eqValueS]
  have := laws_eqValueS_from hl hq hd 0 (Nat.zero_le _)
  simpa using this
theorem d_laws_eqValue {ls : List (Leaf false)} (h : IsValue ls) : Dn F.laws_eqValue [.agg ls, .agg ls] [] = some (vbool true, []) := by
  induction h with
  | mk i0 s1 e2 e3 h1 h2 q2 h3 q3 ih2 =>
    refine den_of ?_
    rw [run_laws_eqValue]
    have c2 := d_laws_eqValueS_of h2 q2 ih2
    have c3 := d_laws_eqStringS h3 q3
    simp [c2, c3]
theorem d_laws_eqValueS {es : List (List (Leaf false))} (hl : es.length ≤ maxLen) (hq : ∀ e ∈ es, IsValue e) : Dn F.laws_eqValueS [vsl es, vsl es] [] = some (vbool true, []) := d_laws_eqValueS_of hl hq fun e he => d_laws_eqValue (hq e he)
theorem laws_eqArgS_from {es : List (List (Leaf false))} (hl : es.length ≤ maxLen) (hq : ∀ e ∈ es, IsArg e) (hd : ∀ e ∈ es, Dn F.laws_eqArg [.agg e, .agg e] [] = some (vbool true, [])) : ∀ i : Nat, i ≤ es.length →
    laws_eqArgS_A Dn (laws_eqArgS_0 es es i) = some (vbool true, []) := by
  refine upto_ind ?_ ?_
  · rw [laws_eqArgS_0_eq]; simp
  · intro i hi ih
    have hci := hd _ (List.getElem_mem hi)
    obtain ⟨s0, i1, s2, e3, e4, he, h0, h2, h3, q3, h4, q4⟩ := (hq _ (List.getElem_mem hi)).ex
    rw [laws_eqArgS_0_eq]
    simp only [Int.ofNat_lt, hi, decide_true, branch_true, Int.natCast_nonneg, Bool.and_true, Int.toNat_natCast, guarded_true, wrap_upL (Nat.lt_of_lt_of_le hi hl), sized_all (fun e he => (hq e he).len), getD_lt hi]
    rw [he] at hci ⊢
    simp only [bindE_eq, atK_zero, atK_succ, intK_int, strK_str, boolK_bool, slK_sl, hci, Option.bind_some, svLeafK_leaf, Bool.not_true, branch_false]
    exact ih
theorem d_laws_eqArgS_of {es : List (List (Leaf false))} (hl : es.length ≤ maxLen) (hq : ∀ e ∈ es, IsArg e) (hd : ∀ e ∈ es, Dn F.laws_eqArg [.agg e, .agg e] [] = some (vbool true, [])) : Dn F.laws_eqArgS [vsl es, vsl es] [] = some (vbool true, []) := by
  refine den_of ?_
  rw [run_laws_eqArgS]
  have := laws_eqArgS_from hl hq hd 0 (Nat.zero_le _)
  simpa using this
theorem d_laws_eqArg {ls : List (Leaf false)} (h : IsArg ls) : Dn F.laws_eqArg [.agg ls, .agg ls] [] = some (vbool true, []) := by
  cases h with
  | mk s0 i1 s2 e3 e4 h0 h2 h3 q3 h4 q4 =>
    refine den_of ?_
    rw [run_laws_eqArg]
    have c1 := d_laws_eqValue (.mk i1 s2 e3 e4 h2 h3 q3 h4 q4)
    simp [c1]
theorem d_laws_eqArgS {es : List (List (Leaf false))} (hl : es.length ≤ maxLen) (hq : ∀ e ∈ es, IsArg e) : Dn F.laws_eqArgS [vsl es, vsl es] [] = some (vbool true, []) := d_laws_eqArgS_of hl hq fun e he => d_laws_eqArg (hq e he)
theorem laws_eqDirS_from {es : List (List (Leaf false))} (hl : es.length ≤ maxLen) (hq : ∀ e ∈ es, IsDir e) (hd : ∀ e ∈ es, Dn F.laws_eqDir [.agg e, .agg e] [] = some (vbool true, [])) : ∀ i : Nat, i ≤ es.length →
    laws_eqDirS_A Dn (laws_eqDirS_0 es es i) = some (vbool true, []) := by
  refine upto_ind ?_ ?_
  · rw [laws_eqDirS_0_eq]; simp
  · intro i hi ih
    have hci := hd _ (List.getElem_mem hi)
    obtain ⟨s0, e1, he, h0, h1, q1⟩ := (hq _ (List.getElem_mem hi)).ex
    rw [laws_eqDirS_0_eq]
    simp only [Int.ofNat_lt, hi, decide_true, branch_true, Int.natCast_nonneg, Bool.and_true, Int.toNat_natCast, guarded_true, wrap_upL (Nat.lt_of_lt_of_le hi hl), sized_all (fun e he => (hq e he).len), getD_lt hi]
    rw [he] at hci ⊢
    simp only [bindE_eq, atK_zero, atK_succ, intK_int, strK_str, boolK_bool, slK_sl, hci, Option.bind_some, svLeafK_leaf, Bool.not_true, branch_false]
    exact ih
theorem d_laws_eqDirS_of {es : List (List (Leaf false))} (hl : es.length ≤ maxLen) (hq : ∀ e ∈ es, IsDir e) (hd : ∀ e ∈ es, Dn F.laws_eqDir [.agg e, .agg e] [] = some (vbool true, [])) : Dn F.laws_eqDirS [vsl es, vsl es] [] = some (vbool true, []) := by
  refine den_of ?_
  rw [run_laws_eqDirS]
  have := laws_eqDirS_from hl hq hd 0 (Nat.zero_le _)
  simpa using this
theorem d_laws_eqDir {ls : List (Leaf false)} (h : IsDir ls) : Dn F.laws_eqDir [.agg ls, .agg ls] [] = some (vbool true, []) := by
  cases h with
  | mk s0 e1 h0 h1 q1 =>
    refine den_of ?_
    rw [run_laws_eqDir]
    have c1 := d_laws_eqArgS h1 q1
    simp [c1]
theorem d_laws_eqDirS {es : List (List (Leaf false))} (hl : es.length ≤ maxLen) (hq : ∀ e ∈ es, IsDir e) : Dn F.laws_eqDirS [vsl es, vsl es] [] = some (vbool true, []) := d_laws_eqDirS_of hl hq fun e he => d_laws_eqDir (hq e he)
theorem laws_eqInDefS_from {es : List (List (Leaf false))} (hl : es.length ≤ maxLen) (hq : ∀ e ∈ es, IsInDef e) (hd : ∀ e ∈ es, Dn F.laws_eqInDef [.agg e, .agg e] [] = some (vbool true, [])) : ∀ i : Nat, i ≤ es.length →
    laws_eqInDefS_A Dn (laws_eqInDefS_0 es es i) = some (vbool true, []) := by
  refine upto_ind ?_ ?_
  · rw [laws_eqInDefS_0_eq]; simp
  · intro i hi ih
    have hci := hd _ (List.getElem_mem hi)
    obtain ⟨s0, s1, s2, s3, b4, i5, s6, e7, e8, e9, he, h0, h1, h2, h3, h6, h7, q7, h8, q8, h9, q9⟩ := (hq _ (List.getElem_mem hi)).ex
    rw [laws_eqInDefS_0_eq]
    simp only [Int.ofNat_lt, hi, decide_true, branch_true, Int.natCast_nonneg, Bool.and_true, Int.toNat_natCast, guarded_true, wrap_upL (Nat.lt_of_lt_of_le hi hl), sized_all (fun e he => (hq e he).len), getD_lt hi]
    rw [he] at hci ⊢
    simp only [bindE_eq, atK_zero, atK_succ, intK_int, strK_str, boolK_bool, slK_sl, hci, Option.bind_some, svLeafK_leaf, Bool.not_true, branch_false]
    exact ih
theorem d_laws_eqInDefS_of {es : List (List (Leaf false))} (hl : es.length ≤ maxLen) (hq : ∀ e ∈ es, IsInDef e) (hd : ∀ e ∈ es, Dn F.laws_eqInDef [.agg e, .agg e] [] = some (vbool true, [])) : Dn F.laws_eqInDefS [vsl es, vsl es] [] = some (vbool true, []) := by
  refine den_of ?_
  rw [run_laws_eqInDefS]
  have := laws_eqInDefS_from hl hq hd 0 (Nat.zero_le _)
  simpa using this
theorem d_laws_eqInDef {ls : List (Leaf false)} (h : IsInDef ls) : Dn F.laws_eqInDef [.agg ls, .agg ls] [] = some (vbool true, []) := by
  cases h with
  | mk s0 s1 s2 s3 b4 i5 s6 e7 e8 e9 h0 h1 h2 h3 h6 h7 q7 h8 q8 h9 q9 =>
    refine den_of ?_
    rw [run_laws_eqInDef]
    have c2 := d_laws_eqType (.mk s2 s3 h2 h3)
    have c5 := d_laws_eqValue (.mk i5 s6 e7 e8 h6 h7 q7 h8 q8)
    have c9 := d_laws_eqDirS h9 q9
    simp [c2, c5, c9]
theorem d_laws_eqInDefS {es : List (List (Leaf false))} (hl : es.length ≤ maxLen) (hq : ∀ e ∈ es, IsInDef e) : Dn F.laws_eqInDefS [vsl es, vsl es] [] = some (vbool true, []) := d_laws_eqInDefS_of hl hq fun e he => d_laws_eqInDef (hq e he)
theorem laws_eqFieldDefS_from {es : List (List (Leaf false))} (hl : es.length ≤ maxLen) (hq : ∀ e ∈ es, IsFieldDef e) (hd : ∀ e ∈ es, Dn F.laws_eqFieldDef [.agg e, .agg e] [] = some (vbool true, [])) : ∀ i : Nat, i ≤ es.length →
    laws_eqFieldDefS_A Dn (laws_eqFieldDefS_0 es es i) = some (vbool true, []) := by
  refine upto_ind ?_ ?_
  · rw [laws_eqFieldDefS_0_eq]; simp
  · intro i hi ih
    have hci := hd _ (List.getElem_mem hi)
    obtain ⟨s0, s1, e2, s3, s4, e5, he, h0, h1, h2, q2, h3, h4, h5, q5⟩ := (hq _ (List.getElem_mem hi)).ex
    rw [laws_eqFieldDefS_0_eq]
    simp only [Int.ofNat_lt, hi, decide_true, branch_true, Int.natCast_nonneg, Bool.and_true, Int.toNat_natCast, guarded_true, wrap_upL (Nat.lt_of_lt_of_le hi hl), sized_all (fun e he => (hq e he).len), getD_lt hi]
    rw [he] at hci ⊢
    simp only [bindE_eq, atK_zero, atK_succ, intK_int, strK_str, boolK_bool, slK_sl, hci, Option.bind_some, svLeafK_leaf, Bool.not_true, branch_false]
    exact ih
theorem d_laws_eqFieldDefS_of {es : List (List (Leaf false))} (hl : es.length ≤ maxLen) (hq : ∀ e ∈ es, IsFieldDef e) (hd : ∀ e ∈ es, Dn F.laws_eqFieldDef [.agg e, .agg e] [] = some (vbool true, [])) : Dn F.laws_eqFieldDefS [vsl es, vsl es] [] = some (vbool true, []) := by
  refine den_of ?_
  rw [run_laws_eqFieldDefS]
  have := laws_eqFieldDefS_from hl hq hd 0 (Nat.zero_le _)
  simpa using this
theorem d_laws_eqFieldDef {ls : List (Leaf false)} (h : IsFieldDef ls) : Dn F.laws_eqFieldDef [.agg ls, .agg ls] [] = some (vbool true, []) := by
  cases h with
  | mk s0 s1 e2 s3 s4 e5 h0 h1 h2 q2 h3 h4 h5 q5 =>
    refine den_of ?_
    rw [run_laws_eqFieldDef]
    have c2 := d_laws_eqInDefS h2 q2
    have c3 := d_laws_eqType (.mk s3 s4 h3 h4)
    have c5 := d_laws_eqDirS h5 q5
    simp [c2, c3, c5]
theorem d_laws_eqFieldDefS {es : List (List (Leaf false))} (hl : es.length ≤ maxLen) (hq : ∀ e ∈ es, IsFieldDef e) : Dn F.laws_eqFieldDefS [vsl es, vsl es] [] = some (vbool true, []) := d_laws_eqFieldDefS_of hl hq fun e he => d_laws_eqFieldDef (hq e he)
theorem laws_eqEnumDefS_from {es : List (List (Leaf false))} (hl : es.length ≤ maxLen) (hq : ∀ e ∈ es, IsEnumDef e) (hd : ∀ e ∈ es, Dn F.laws_eqEnumDef [.agg e, .agg e] [] = some (vbool true, [])) : ∀ i : Nat, i ≤ es.length →
    laws_eqEnumDefS_A Dn (laws_eqEnumDefS_0 es es i) = some (vbool true, []) := by
  refine upto_ind ?_ ?_
  · rw [laws_eqEnumDefS_0_eq]; simp
  · intro i hi ih
    have hci := hd _ (List.getElem_mem hi)
    obtain ⟨s0, s1, e2, he, h0, h1, h2, q2⟩ := (hq _ (List.getElem_mem hi)).ex
    rw [laws_eqEnumDefS_0_eq]
    simp only [Int.ofNat_lt, hi, decide_true, branch_true, Int.natCast_nonneg, Bool.and_true, Int.toNat_natCast, guarded_true, wrap_upL (Nat.lt_of_lt_of_le hi hl), sized_all (fun e he => (hq e he).len), getD_lt hi]
    rw [he] at hci ⊢
    simp only [bindE_eq, atK_zero, atK_succ, intK_int, strK_str, boolK_bool, slK_sl, hci, Option.bind_some, svLeafK_leaf, Bool.not_true, branch_false]
    exact ih
theorem d_laws_eqEnumDefS_of {es : List (List (Leaf false))} (hl : es.length ≤ maxLen) (hq : ∀ e ∈ es, IsEnumDef e) (hd : ∀ e ∈ es, Dn F.laws_eqEnumDef [.agg e, .agg e] [] = some (vbool true, [])) : Dn F.laws_eqEnumDefS [vsl es, vsl es] [] = some (vbool true, []) := by
  refine den_of ?_
  rw [run_laws_eqEnumDefS]
  have := laws_eqEnumDefS_from hl hq hd 0 (Nat.zero_le _)
  simpa using this
theorem d_laws_eqEnumDef {ls : List (Leaf false)} (h : IsEnumDef ls) : Dn F.laws_eqEnumDef [.agg ls, .agg ls] [] = some (vbool true, []) := by
  cases h with
  | mk s0 s1 e2 h0 h1 h2 q2 =>
    refine den_of ?_
    rw [run_laws_eqEnumDef]
    have c2 := d_laws_eqDirS h2 q2
    simp [c2]
theorem d_laws_eqEnumDefS {es : List (List (Leaf false))} (hl : es.length ≤ maxLen) (hq : ∀ e ∈ es, IsEnumDef e) : Dn F.laws_eqEnumDefS [vsl es, vsl es] [] = some (vbool true, []) := d_laws_eqEnumDefS_of hl hq fun e he => d_laws_eqEnumDef (hq e he)
theorem laws_eqRootS_from {es : List (List (Leaf false))} (hl : es.length ≤ maxLen) (hq : ∀ e ∈ es, IsRoot e) (hd : ∀ e ∈ es, Dn F.laws_eqRoot [.agg e, .agg e] [] = some (vbool true, [])) : ∀ i : Nat, i ≤ es.length →
    laws_eqRootS_A Dn (laws_eqRootS_0 es es i) = some (vbool true, []) := by
  refine upto_ind ?_ ?_
  · rw [laws_eqRootS_0_eq]; simp
  · intro i hi ih
    have hci := hd _ (List.getElem_mem hi)
    obtain ⟨i0, s1, he, h1⟩ := (hq _ (List.getElem_mem hi)).ex
    rw [laws_eqRootS_0_eq]
    simp only [Int.ofNat_lt, hi, decide_true, branch_true, Int.natCast_nonneg, Bool.and_true, Int.toNat_natCast, guarded_true, wrap_upL (Nat.lt_of_lt_of_le hi hl), sized_all (fun e he => (hq e he).len), getD_lt hi]
    rw [he] at hci ⊢
    simp only [bindE_eq, atK_zero, atK_succ, intK_int, strK_str, boolK_bool, slK_sl, hci, Option.bind_some, svLeafK_leaf, Bool.not_true, branch_false]
    exact ih
theorem d_laws_eqRootS_of {es : List (List (Leaf false))} (hl : es.length ≤ maxLen) (hq : ∀ e ∈ es, IsRoot e) (hd : ∀ e ∈ es, Dn F.laws_eqRoot [.agg e, .agg e] [] = some (vbool true, [])) : Dn F.laws_eqRootS [vsl es, vsl es] [] = some (vbool true, []) := by
  refine den_of ?_
  rw [run_laws_eqRootS]
  have := laws_eqRootS_from hl hq hd 0 (Nat.zero_le _)
  simpa using this
theorem d_laws_eqRoot {ls : List (Leaf false)} (h : IsRoot ls) : Dn F.laws_eqRoot [.agg ls, .agg ls] [] = some (vbool true, []) := by
  cases h with
  | mk i0 s1 h1 =>
    refine den_of ?_
    rw [run_laws_eqRoot]
    simp []
theorem d_laws_eqRootS {es : List (List (Leaf false))} (hl : es.length ≤ maxLen) (hq : ∀ e ∈ es, IsRoot e) : Dn F.laws_eqRootS [vsl es, vsl es] [] = some (vbool true, []) := d_laws_eqRootS_of hl hq fun e he => d_laws_eqRoot (hq e he)
theorem laws_eqDefS_from {es : List (List (Leaf false))} (hl : es.length ≤ maxLen) (hq : ∀ e ∈ es, IsDef e) (hd : ∀ e ∈ es, Dn F.laws_eqDef [.agg e, .agg e] [] = some (vbool true, [])) : ∀ i : Nat, i ≤ es.length →
    laws_eqDefS_A Dn (laws_eqDefS_0 es es i) = some (vbool true, []) := by
  refine upto_ind ?_ ?_
  · rw [laws_eqDefS_0_eq]; simp
  · intro i hi ih
    have hci := hd _ (List.getElem_mem hi)
    obtain ⟨i0, b1, s2, s3, e4, e5, e6, e7, e8, b9, e10, he, h2, h3, h4, q4, h5, q5, h6, q6, h7, q7, h8, q8, h10, q10⟩ := (hq _ (List.getElem_mem hi)).ex
    rw [laws_eqDefS_0_eq]
    simp only [Int.ofNat_lt, hi, decide_true, branch_true, Int.natCast_nonneg, Bool.and_true, Int.toNat_natCast, guarded_true, wrap_upL (Nat.lt_of_lt_of_le hi hl), sized_all (fun e he => (hq e he).len), getD_lt hi]
    rw [he] at hci ⊢
    simp only [bindE_eq, atK_zero, atK_succ, intK_int, strK_str, boolK_bool, slK_sl, hci, Option.bind_some, svLeafK_leaf, Bool.not_true, branch_false]
    exact ih
theorem d_laws_eqDefS_of {es : List (List (Leaf false))} (hl : es.length ≤ maxLen) (hq : ∀ e ∈ es, IsDef e) (hd : ∀ e ∈ es, Dn F.laws_eqDef [.agg e, .agg e] [] = some (vbool true, [])) : Dn F.laws_eqDefS [vsl es, vsl es] [] = some (vbool true, []) := by
  refine den_of ?_
  rw [run_laws_eqDefS]
  have := laws_eqDefS_from hl hq hd 0 (Nat.zero_le _)
  simpa using this
theorem d_laws_eqDef {ls : List (Leaf false)} (h : IsDef ls) : Dn F.laws_eqDef [.agg ls, .agg ls] [] = some (vbool true, []) := by
  cases h with
  | mk i0 b1 s2 s3 e4 e5 e6 e7 e8 b9 e10 h2 h3 h4 q4 h5 q5 h6 q6 h7 q7 h8 q8 h10 q10 =>
    refine den_of ?_
    rw [run_laws_eqDef]
    have c4 := d_laws_eqStringS h4 q4
    have c5 := d_laws_eqFieldDefS h5 q5
    have c6 := d_laws_eqInDefS h6 q6
    have c7 := d_laws_eqEnumDefS h7 q7
    have c8 := d_laws_eqRootS h8 q8
    have c10 := d_laws_eqDirS h10 q10
    simp [c4, c5, c6, c7, c8, c10]
theorem d_laws_eqDefS {es : List (List (Leaf false))} (hl : es.length ≤ maxLen) (hq : ∀ e ∈ es, IsDef e) : Dn F.laws_eqDefS [vsl es, vsl es] [] = some (vbool true, []) := d_laws_eqDefS_of hl hq fun e he => d_laws_eqDef (hq e he)
theorem d_laws_eqSchema {ls : List (Leaf false)} (h : IsSchema ls) : Dn F.laws_eqSchema [.agg ls, .agg ls] [] = some (vbool true, []) := by
  cases h with
  | mk e0 e1 e2 h0 q0 h1 q1 h2 q2 =>
    refine den_of ?_
    rw [run_laws_eqSchema]
    have c0 := d_laws_eqDefS h0 q0
    have c1 := d_laws_eqDefS h1 q1
    have c2 := d_laws_eqRootS h2 q2
    simp [c0, c1, c2]
theorem laws_eqProblemS_from {es : List (List (Leaf false))} (hl : es.length ≤ maxLen) (hq : ∀ e ∈ es, IsProblem e) (hd : ∀ e ∈ es, Dn F.laws_eqProblem [.agg e, .agg e] [] = some (vbool true, [])) : ∀ i : Nat, i ≤ es.length →
    laws_eqProblemS_A Dn (laws_eqProblemS_0 es es i) = some (vbool true, []) := by
  refine upto_ind ?_ ?_
  · rw [laws_eqProblemS_0_eq]; simp
  · intro i hi ih
    have hci := hd _ (List.getElem_mem hi)
    obtain ⟨i0, s1, s2, he⟩ := (hq _ (List.getElem_mem hi)).ex
    rw [laws_eqProblemS_0_eq]
    simp only [Int.ofNat_lt, hi, decide_true, branch_true, Int.natCast_nonneg, Bool.and_true, Int.toNat_natCast, guarded_true, wrap_upL (Nat.lt_of_lt_of_le hi hl), sized_all (fun e he => (hq e he).len), getD_lt hi]
    rw [he] at hci ⊢
    simp only [bindE_eq, atK_zero, atK_succ, intK_int, strK_str, boolK_bool, slK_sl, hci, Option.bind_some, svLeafK_leaf, Bool.not_true, branch_false]
    exact ih
theorem d_laws_eqProblemS_of {es : List (List (Leaf false))} (hl : es.length ≤ maxLen) (hq : ∀ e ∈ es, IsProblem e) (hd : ∀ e ∈ es, Dn F.laws_eqProblem [.agg e, .agg e] [] = some (vbool true, [])) : Dn F.laws_eqProblemS [vsl es, vsl es] [] = some (vbool true, []) := by
  refine den_of ?_
  rw [run_laws_eqProblemS]
  have := laws_eqProblemS_from hl hq hd 0 (Nat.zero_le _)
  simpa using this
theorem d_laws_eqProblem {ls : List (Leaf false)} (h : IsProblem ls) : Dn F.laws_eqProblem [.agg ls, .agg ls] [] = some (vbool true, []) := by
  cases h with
  | mk i0 s1 s2 =>
    refine den_of ?_
    rw [run_laws_eqProblem]
    simp []
theorem d_laws_eqProblemS {es : List (List (Leaf false))} (hl : es.length ≤ maxLen) (hq : ∀ e ∈ es, IsProblem e) : Dn F.laws_eqProblemS [vsl es, vsl es] [] = some (vbool true, []) := d_laws_eqProblemS_of hl hq fun e he => d_laws_eqProblem (hq e he)

end Go.Vs
end
