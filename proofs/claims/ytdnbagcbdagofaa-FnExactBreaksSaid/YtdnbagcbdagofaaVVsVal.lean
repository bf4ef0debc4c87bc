/- What the shadow runner's plain operations say of the machine's: arithmetic, comparing, lengths. -/
import Derived.Test.YtdnbagcbdagofaaVVsRep
import Derived.Laws.StructEq
import Derived.Laws.Concat
namespace Go.Vs
variable {m : Bool}
variable {P : Program} {w : World} {F : Fr} {N : Env}

def aggD : TypeDesc → Bool | .struct _ | .array _ _ => true | _ => false
theorem isAgg_run {t : TypeId} {d : TypeDesc} (h : P.underlying t = some d) : (isAgg t).run P w = .ok (aggD d) w := by
  simp only [isAgg, Sem.run_bind, run_underlying h, Result.andThen_ok]
  cases d <;> rfl
theorem sizeOf_run {t : TypeId} {i : TypeInfo} (h : P.info? t = some i) : (sizeOf t).run P w = .ok i.size w := by
  simp [sizeOf, typeInfo, h]

theorem repL_int {k : IntKind} {n : Int} {v : Value} (h : RepL (m := m) w F N (.int k n) v) : v = .int k n := by cases h; rfl
theorem repL_bool {b : Bool} {v : Value} (h : RepL (m := m) w F N (.bool b) v) : v = .bool b := by cases h; rfl
theorem repL_str {s : ByteArray} {v : Value} (h : RepL (m := m) w F N (.str s) v) : v = .string s := by cases h; rfl

theorem intOp_run {op : BinOp} {k : IntKind} {a b : Int} {l : (Leaf m)} (t : TypeId) (h : intOp op k a b = some l) (hop : op ≠ .shl ∧ op ≠ .shr) :
    ∃ v, (binOp op t (.int k a) (.int k b)).run P w = .ok v w ∧ RepL w F N l v := by
  cases op <;> simp only [intOp] at h <;> simp at hop <;> try (simp at h; done)
  all_goals try (simp only [Option.some.injEq] at h; subst h)
  case add => exact ⟨_, by simp [binOp, Op.intArith], .int _ _⟩
  case sub => exact ⟨_, by simp [binOp, Op.intArith], .int _ _⟩
  case mul => exact ⟨_, by simp [binOp, Op.intArith], .int _ _⟩
  case quo =>
    split at h
    · simp at h
    · simp only [Option.some.injEq] at h; subst h; rename_i hb; exact ⟨_, by simp [binOp, Op.intDiv, hb], .int _ _⟩
  case rem =>
    split at h
    · simp at h
    · simp only [Option.some.injEq] at h; subst h; rename_i hb; exact ⟨_, by simp [binOp, Op.intDiv, hb], .int _ _⟩
  case and => exact ⟨_, by simp [binOp, Op.intBits], .int _ _⟩
  all_goals exact ⟨_, by simp [binOp, Op.intCmp], .bool _⟩
theorem shOp_run {op : BinOp} {k k' : IntKind} {a b : Int} {l : (Leaf m)} (t : TypeId) (h : intOp op k a b = some l) (hop : op = .shl ∨ op = .shr) :
    ∃ v, (binOp op t (.int k a) (.int k' b)).run P w = .ok v w ∧ RepL w F N l v := by
  rcases hop with rfl | rfl <;> simp only [intOp] at h <;> split at h <;> simp at h <;> subst h <;> rename_i hb
  · exact ⟨_, by simp [binOp, Op.shift, hb], .int _ _⟩
  · exact ⟨_, by simp [binOp, Op.shift, hb], .int _ _⟩
theorem strOp_run {op : BinOp} {a b : ByteArray} {l : (Leaf m)} (t : TypeId) (h : strOp op a b = some l) :
    ∃ v, (binOp op t (.string a) (.string b)).run P w = .ok v w ∧ RepL w F N l v := by
  cases op <;> simp only [strOp] at h <;> try (simp at h; done)
  case add =>
    split at h
    · rename_i hs
      simp at h; subst h
      exact ⟨_, by simp only [binOp]; exact run_string_add_sum (P := P) (w := w) a b (by omega), .str _⟩
    · simp at h
  all_goals (simp only [Option.some.injEq] at h; subst h; exact ⟨_, by simp only [binOp, Op.stringOp, Sem.run_pure], .bool _⟩)
theorem eqBool_run {d : Nat} {a b : Bool} {t : TypeId} (ht : P.underlying t = some .bool) : (Op.equalIn (d + 1) t (.bool a) (.bool b)).run P w = .ok (a == b) w := by
  simp [Op.equalIn, run_underlying ht]
theorem boolOp_run {op : BinOp} {a b : Bool} {l : (Leaf m)} {t : TypeId} (ht : P.underlying t = some .bool) (h : boolOp op a b = some l) :
    ∃ v, (binOp op t (.bool a) (.bool b)).run P w = .ok v w ∧ RepL w F N l v := by
  cases op <;> simp only [boolOp] at h <;> try (simp at h; done)
  all_goals
    simp only [Option.some.injEq] at h
    subst h
    have he : (Op.equal t (.bool a) (.bool b)).run P w = .ok (a == b) w := eqBool_run (d := 9999) ht
  · exact ⟨.bool (a == b), by
      rw [show binOp .eql t (.bool a) (.bool b) = (do pure (.bool (← Op.equal t (.bool a) (.bool b)))) from rfl]
      simp [he], .bool _⟩
  · exact ⟨.bool (!(a == b)), by
      rw [show binOp .neq t (.bool a) (.bool b) = (do pure (.bool (!(← Op.equal t (.bool a) (.bool b))))) from rfl]
      simp [he], .bool _⟩

theorem part_run {t : TypeId} {cs : Array Value} {j : Nat} {v : Value} {d : TypeDesc} (hu : P.underlying t = some d) (hd : aggD d = false) (h : cs[j]? = some v) :
    (part t cs j).run P w = .ok v w := by
  simp [part, isAgg_run hu, hd, h]

theorem eqLeaf_run {t : TypeId} {a b : (Leaf m)} {e : Bool} {d : Nat} {u v : Value} (h : eqLeaf P t a b = some e) (ha : RepL w F N a u) (hb : RepL w F N b v) :
    (Op.equalIn (d + 1) t u v).run P w = .ok e w ∧ ∃ d', P.underlying t = some d' ∧ aggD d' = false := by
  unfold eqLeaf at h
  split at h
  · rename_i hu
    split at h
    · rename_i hk; subst hk
      simp only [Option.some.injEq] at h; subst h
      cases repL_int ha; cases repL_int hb
      exact ⟨by simp [Op.equalIn, run_underlying hu], _, hu, rfl⟩
    · simp at h
  · rename_i hu
    simp only [Option.some.injEq] at h; subst h
    cases repL_bool ha; cases repL_bool hb
    exact ⟨by simp [Op.equalIn, run_underlying hu], _, hu, rfl⟩
  · rename_i hu
    simp only [Option.some.injEq] at h; subst h
    cases repL_str ha; cases repL_str hb
    exact ⟨by simp [Op.equalIn, run_underlying hu], _, hu, rfl⟩
  · simp at h

theorem eqFieldsV_run {d : Nat} {xs ys : Array Value} : ∀ (fs : List Field) (j : Nat) (a b : List (Leaf m)) (e : Bool), eqFieldsV P j fs a b = some e →
    RepR w F N a (xs.toList.drop j) → RepR w F N b (ys.toList.drop j) → (Op.eqFields (d + 1) xs ys fs).run P w = .ok e w
  | [], j, [], [], e, h, _, _ => by simp [eqFieldsV] at h; subst h; simp [Op.eqFields]
  | [], _, [], _ :: _, _, h, _, _ | [], _, _ :: _, _, _, h, _, _ => by simp [eqFieldsV] at h
  | _ :: _, _, [], _, _, h, _, _ => by simp [eqFieldsV] at h
  | _ :: _, _, _ :: _, [], _, h, _, _ => by simp [eqFieldsV] at h
  | f :: fs, j, a :: x, b :: y, e, h, ha, hb => by
    simp only [eqFieldsV] at h
    split at h
    · rename_i hf
      simp only [Bool.and_eq_true, beq_iff_eq, bne_iff_ne, ne_eq] at hf
      obtain ⟨hoff, hn⟩ := hf
      rw [Option.bind_eq_some_iff] at h
      obtain ⟨e1, h1, h2⟩ := h
      rw [Option.map_eq_some_iff] at h2
      obtain ⟨e2, h3, rfl⟩ := h2
      obtain ⟨u, xs', hx, hu1, hx1⟩ := ha.uncons
      obtain ⟨v, ys', hy, hv1, hy1⟩ := hb.uncons
      obtain ⟨he, d', hd1, hd2⟩ := eqLeaf_run (d := d) h1 hu1 hv1
      have gx : xs[j]? = some u := by
        have := congrArg (·[0]?) hx
        simpa using this
      have gy : ys[j]? = some v := by
        have := congrArg (·[0]?) hy
        simpa using this
      have tx : xs.toList.drop (j + 1) = xs' := by rw [← List.drop_drop, hx]; rfl
      have ty : ys.toList.drop (j + 1) = ys' := by rw [← List.drop_drop, hy]; rfl
      have ih := eqFieldsV_run (d := d) fs (j + 1) x y e2 h3 (by rw [tx]; exact hx1) (by rw [ty]; exact hy1)
      have px : (part f.type xs f.offset).run P w = .ok u w := by rw [hoff]; exact part_run hd1 hd2 gx
      have py : (part f.type ys f.offset).run P w = .ok v w := by rw [hoff]; exact part_run hd1 hd2 gy
      rw [Op.eqFields]
      simp only [if_pos hn, Sem.run_bind, px, py, he, Result.andThen_ok]
      cases e1
      · simp
      · simpa using ih
    · simp at h

theorem eqStructV_run {t : TypeId} {a b : List (Leaf m)} {e : Bool} {xs ys : Array Value} (h : eqStructV P t a b = some e) (ha : RepR w F N a xs.toList) (hb : RepR w F N b ys.toList) :
    (Op.equal t (.agg xs) (.agg ys)).run P w = .ok e w ∧ P.eqGuardType P.depth t = false := by
  unfold eqStructV at h
  split at h
  · rename_i fs hu
    split at h
    · simp at h
    · rename_i hg
      simp only [Bool.or_eq_true, not_or, Bool.not_eq_true] at hg
      refine ⟨?_, hg.2⟩
      have hf : P.fieldsOf t = fs := by simp [Program.fieldsOf, hu]
      unfold Op.equal Op.maxDepth
      rw [run_equalIn_struct (P := P) w 9999 t xs ys (by rw [hf]; exact hu) hg.1, hf]
      exact eqFieldsV_run (d := 9998) fs.toList 0 a b e h (by simpa using ha) (by simpa using hb)
  · simp at h

theorem eqGuard_not_nil {op : BinOp} {t : TypeId} {x y : Operand} {u v : Value} (hu : u ≠ .nilIface) (ha : ∀ c, u ≠ .agg c) : (eqGuard op t x y u v).run P w = .ok () w := by
  cases op <;> try rfl
  all_goals (cases u <;> first | rfl | exact absurd rfl hu | exact absurd rfl (ha _))

theorem binV_run {op : BinOp} {t : TypeId} {x y : (SV m)} {v : (SV m)} {u u' : Value} {o o' : Operand} (h : binV P op t x y = some v)
    (hx : ∀ l, x.drop = .leaf l → RepL w F N l u) (hy : ∀ l, y.drop = .leaf l → RepL w F N l u')
    (hxa : ∀ cs, x.drop = .agg cs → ∃ vs, u = .agg vs ∧ RepR w F N cs vs.toList) (hya : ∀ cs, y.drop = .agg cs → ∃ vs, u' = .agg vs ∧ RepR w F N cs vs.toList) :
    ∃ z, (do eqGuard op t o o' u u'; binOp op t u u').run P w = .ok z w ∧ ∃ l, v = .leaf l ∧ RepL w F N l z := by
  unfold binV at h
  split at h
  · rename_i k a k' b ex ey
    cases repL_int (hx _ ex); cases repL_int (hy _ ey)
    have hg : (eqGuard op t o o' (.int k a) (.int k' b)).run P w = .ok () w := eqGuard_not_nil (by simp) (by simp)
    simp only [Sem.run_bind, hg, Result.andThen_ok]
    split at h
    · rename_i hop
      rw [Option.map_eq_some_iff] at h
      obtain ⟨l, hl, rfl⟩ := h
      obtain ⟨z, h1, h2⟩ := shOp_run (P := P) (w := w) (F := F) (N := N) (k' := k') t hl (by cases op <;> simp [isShift] at hop ⊢)
      exact ⟨z, h1, l, rfl, h2⟩
    · rename_i hop
      split at h
      · rename_i hk; subst hk
        rw [Option.map_eq_some_iff] at h
        obtain ⟨l, hl, rfl⟩ := h
        obtain ⟨z, h1, h2⟩ := intOp_run (P := P) (w := w) (F := F) (N := N) t hl (by constructor <;> rintro rfl <;> simp [isShift] at hop)
        exact ⟨z, h1, l, rfl, h2⟩
      · simp at h
  · rename_i a b ex ey
    cases repL_str (hx _ ex); cases repL_str (hy _ ey)
    have hg : (eqGuard op t o o' (.string a) (.string b)).run P w = .ok () w := eqGuard_not_nil (by simp) (by simp)
    simp only [Sem.run_bind, hg, Result.andThen_ok]
    rw [Option.map_eq_some_iff] at h
    obtain ⟨l, hl, rfl⟩ := h
    obtain ⟨z, h1, h2⟩ := strOp_run (P := P) (w := w) (F := F) (N := N) t hl
    exact ⟨z, h1, l, rfl, h2⟩
  · rename_i a b ex ey
    cases repL_bool (hx _ ex); cases repL_bool (hy _ ey)
    have hg : (eqGuard op t o o' (.bool a) (.bool b)).run P w = .ok () w := eqGuard_not_nil (by simp) (by simp)
    simp only [Sem.run_bind, hg, Result.andThen_ok]
    split at h
    · rename_i hb
      have ht : P.underlying t = some .bool := by unfold isBoolT at hb; split at hb <;> simp_all
      rw [Option.map_eq_some_iff] at h
      obtain ⟨l, hl, rfl⟩ := h
      obtain ⟨z, h1, h2⟩ := boolOp_run (P := P) (w := w) (F := F) (N := N) ht hl
      exact ⟨z, h1, l, rfl, h2⟩
    · simp at h
  · rename_i a b ex ey
    obtain ⟨xs, rfl, rx⟩ := hxa _ ex
    obtain ⟨ys, rfl, ry⟩ := hya _ ey
    split at h
    · rw [Option.map_eq_some_iff] at h
      obtain ⟨e, he, rfl⟩ := h
      obtain ⟨h1, h2⟩ := eqStructV_run he rx ry
      exact ⟨.bool e, by simp [eqGuard, h2, binOp, h1], _, rfl, .bool _⟩
    · rw [Option.map_eq_some_iff] at h
      obtain ⟨e, he, rfl⟩ := h
      obtain ⟨h1, h2⟩ := eqStructV_run he rx ry
      exact ⟨.bool !e, by simp [eqGuard, h2, binOp, h1], _, rfl, .bool _⟩
    · simp at h
  · simp at h
end Go.Vs
