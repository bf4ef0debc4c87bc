/- What the program's functions compute, read off their text by the shadow runner (VsCore, VsEff, VsOrder, VsRep, VsVal, VsVal2); no condition. -/
import Derived.Orders
import Derived.Maps.AppendAt
import Derived.Laws.Tables
import Derived.Laws.BytesArg
import Derived.Extends
import Derived.Laws.StructEq
import Derived.Laws.Concat
section
set_option linter.unusedVariables false
set_option linter.unusedSimpArgs false
namespace Go.Vs
variable {m : Bool}
inductive Flag where
  | new | old | soft | tag (k : Nat) (f : Bool)
def Fl (m : Bool) : Type := match m with | true => Flag | false => Unit
abbrev fP : Fl false := ()
abbrev fOld : Fl true := Flag.old
abbrev fNew : Fl true := Flag.new
abbrev fSoft : Fl true := Flag.soft
def Fl.new (m : Bool) : Fl m := match m with | true => Flag.new | false => ()
def Fl.isSoft {m : Bool} (c : Fl m) : Bool := match m, c with | true, Flag.soft => true | _, _ => false
def Fl.later {m : Bool} (c : Fl m) (lo : Option Nat) : Fl m := match lo with
  | none => c
  | some _ => match m, c with | true, Flag.new => Flag.old | true, Flag.tag k _ => Flag.tag k false | true, Flag.old => Flag.old | true, Flag.soft => Flag.soft | false, _ => ()
theorem Fl.later_soft {m : Bool} (c : Fl m) (lo : Option Nat) : (c.later lo).isSoft = c.isSoft := by
  cases lo with
  | none => rfl
  | some k => cases m with
    | false => cases c; rfl
    | true => cases c <;> rfl
theorem Fl.soft_new (m : Bool) : (Fl.new m).isSoft = false := by cases m <;> rfl
def Fl.kept (m : Bool) : Fl m := match m with | true => Flag.old | false => ()
theorem Fl.soft_kept (m : Bool) : (Fl.kept m).isSoft = false := by cases m <;> rfl
instance : Inhabited (Fl m) := ⟨Fl.new m⟩
inductive Leaf (m : Bool) where
  | bool (b : Bool)
  | int (k : IntKind) (n : Int)
  | str (s : ByteArray)
  | unk
  | sl (c : Fl m) (es : List (List (Leaf m)))
  | nl (e : Option TypeId)
  deriving Inhabited
inductive SV (m : Bool) where
  | any
  | skip
  | leaf (l : (Leaf m))
  | own (e : Option TypeId) (es : List (List (Leaf m)))
  | raw (e : Option TypeId) (es : List (List (Leaf m)))
  | agg (cs : List (Leaf m))
  | ptr (b o : Nat)
  | eptr (c : Fl m) (e : List (Leaf m)) (o : Nat)
  | bsl (b z lo n : Nat)
  | kfn (f : FuncId) (caps : List (Option (Nat × Nat)))
  | nilptr
  | nilface
  | fn (f : FuncId) (caps : List (SV m))
  | tup (vs : List (SV m))
  deriving Inhabited
def SV.drop : (SV m) → (SV m)
  | .own _ es => .leaf (.sl (Fl.new m) es)
  | .raw _ _ => .any
  | v => v
def SV.see : (SV m) → (SV m)
  | .raw _ es => .leaf (.sl (Fl.new m) es)
  | v => v.drop
structure St (m : Bool) where
  tmps : List (SV m)
  boxes : List (Option (List (SV m)))
  deriving Inhabited
structure Hints where
  nt : Nat
  mv : Nat → Nat → Bool
  pure : Nat → Nat → Bool
  take : Nat → Nat → Bool
  clear : Nat → List Nat
  drop : Nat → List Nat
  after : Nat → List Nat
  afterB : Nat → List Nat
  condA : Nat → List Nat × List Nat
  condB : Nat → List Nat × List Nat
  fz : Nat → List Nat
def Hints.fit (h : Hints) (n : Nat) : Hints := { h with nt := n }
abbrev Oracle (m : Bool) := FuncId → List (SV m) → List (List (SV m)) → Option ((SV m) × List (List (SV m)))
def ofConst : Value → (SV m)
  | .bool b => .leaf (.bool b)
  | .int k n => .leaf (.int k n)
  | .string s => .leaf (.str s)
  | .slice none 0 0 => .own none []
  | .pointer none => .nilptr
  | .nilIface => .nilface
  | _ => .any
def St.eval (s : (St m)) : Operand → (SV m)
  | .tmp t => s.tmps.getD t .any
  | .const v => ofConst v
  | .global _ => .any
  | .func f => .fn f []
def St.put (s : (St m)) (dst : Option Tmp) (v : (SV m)) : (St m) :=
  match dst with
  | some d => { s with tmps := s.tmps.set d v }
  | none => s
def SV.plain : (SV m) → Bool | .leaf (.int _ _) | .leaf (.bool _) | .leaf (.str _) => true | _ => false
def softAt (e : List (Leaf m)) (p : Nat) : Bool := match e[p]? with | some .unk => true | _ => false
def takeE (ρ : Operand → (SV m)) : Operand → List (Tmp × (SV m))
  | .tmp t => [(t, (ρ (.tmp t)).drop)]
  | _ => []
def setAll (l : List (SV m)) (us : List (Tmp × (SV m))) : List (SV m) := us.foldl (fun l p => l.set p.1 p.2) l
def St.takes (s : (St m)) (xs : List Operand) : (St m) := { s with tmps := setAll s.tmps (xs.flatMap (takeE s.eval)) }
def argV (ta : Bool) (ρ : Operand → (SV m)) (x : Operand) : (SV m) := match ta with | true => ρ x | false => (ρ x).drop
def takenL (ta : Bool) (xs : List Operand) : List Operand := match ta with | true => xs | false => []
def St.take (s : (St m)) (x : Operand) : (St m) := s.takes [x]
abbrev Boxes (m : Bool) := List (Option (List (SV m)))
def boxAt (bs : (Boxes m)) (b : Nat) : Option (List (SV m)) := bs.getD b none
def boxesAt (bs : (Boxes m)) : List Nat → Option (List (List (SV m)))
  | [] => some []
  | b :: r => (boxAt bs b).bind fun c => (boxesAt bs r).map (c :: ·)
def putBoxes (bs : (Boxes m)) : List Nat → List (List (SV m)) → (Boxes m)
  | b :: r, c :: cs => putBoxes (bs.set b (some c)) r cs
  | _, _ => bs
def St.box (s : (St m)) (b : Nat) : Option (List (SV m)) := boxAt s.boxes b
def St.setBox (s : (St m)) (b : Nat) (cs : Option (List (SV m))) : (St m) := { s with boxes := s.boxes.set b cs }
def SV.leaves : (SV m) → Option (List (Leaf m))
  | .leaf l => some [l]
  | .own _ es => some [.sl (Fl.new m) es]
  | .agg cs => some cs
  | _ => none
def cellOf : (Leaf m) → (SV m)
  | .nl e => .own e []
  | l => .leaf l
def SV.cells : (SV m) → List (SV m)
  | .agg cs => cs.map cellOf
  | v => [v]
def asLeaf : (SV m) → Option (Leaf m)
  | .leaf l => some l
  | .own _ es => some (.sl (Fl.new m) es)
  | _ => none
def asLeaves : List (SV m) → Option (List (Leaf m))
  | [] => some []
  | c :: r => (asLeaf c).bind fun l => (asLeaves r).map (l :: ·)
def leafOfValue : Value → Option (Leaf m)
  | .bool b => some (.bool b)
  | .int k n => some (.int k n)
  | .string s => some (.str s)
  | .slice none 0 0 => some (.sl (Fl.new m) [])
  | _ => none
def leavesOfValues : List Value → Option (List (Leaf m))
  | [] => some []
  | c :: r => (leafOfValue c).bind fun l => (leavesOfValues r).map (l :: ·)
def zeroLeaves (P : Program) (t : TypeId) : Option (List (Leaf m)) :=
  (P.info? t).bind fun i => i.zero.bind fun z => leavesOfValues z.cells.toList
def isAggT (P : Program) (t : TypeId) : Bool := match P.underlying t with | some (.struct _) | some (.array _ _) | none => true | _ => false
def sizeT (P : Program) (t : TypeId) : Option Nat := match P.underlying t with | some _ => (P.info? t).map (·.size) | none => none
def elemT (P : Program) (t : TypeId) : Option TypeId := match P.underlying t with | some (.slice e) => some e | _ => none
def fieldT (P : Program) (t : TypeId) (f : Nat) : Option (Nat × TypeId) :=
  match P.underlying t with
  | some (.struct fs) => (fs[f]?).map fun x => (x.offset, x.type)
  | _ => none
def partL (P : Program) (t : TypeId) (cs : List (Leaf m)) (o : Nat) : Option (SV m) :=
  if isAggT P t then (sizeT P t).bind fun n => if o + n ≤ cs.length then some (.agg ((cs.drop o).take n)) else none
  else (cs[o]?).map .leaf
def intOp (op : BinOp) (k : IntKind) (a b : Int) : Option (Leaf m) :=
  match op with
  | .add => some (.int k (k.wrap (a + b)))
  | .sub => some (.int k (k.wrap (a - b)))
  | .mul => some (.int k (k.wrap (a * b)))
  | .quo => if b = 0 then none else some (.int k (k.wrap (a.tdiv b)))
  | .rem => if b = 0 then none else some (.int k (a.tmod b))
  | .eql => some (.bool (a == b))
  | .neq => some (.bool (a != b))
  | .lss => some (.bool (a < b))
  | .leq => some (.bool (a ≤ b))
  | .gtr => some (.bool (a > b))
  | .geq => some (.bool (a ≥ b))
  | .and => some (.int k (k.wrap (BitVec.ofInt k.bits a &&& BitVec.ofInt k.bits b).toNat))
  | .shl => if b < 0 then none else some (.int k (k.wrap (a * 2 ^ min b.toNat k.bits)))
  | .shr => if b < 0 then none else some (.int k (a.fdiv (2 ^ min b.toNat k.bits)))
  | _ => none
def strOp (op : BinOp) (x y : ByteArray) : Option (Leaf m) :=
  match op with
  | .add => if x.size + y.size ≤ 140737488355328 then some (.str (x ++ y)) else none
  | .eql => some (.bool (x.toList == y.toList))
  | .neq => some (.bool !(x.toList == y.toList))
  | .lss => some (.bool (Op.bytesLess x.toList y.toList))
  | .leq => some (.bool (Op.bytesLess x.toList y.toList || x.toList == y.toList))
  | .gtr => some (.bool !(Op.bytesLess x.toList y.toList || x.toList == y.toList))
  | .geq => some (.bool !(Op.bytesLess x.toList y.toList))
  | _ => none
def boolOp (op : BinOp) (x y : Bool) : Option (Leaf m) :=
  match op with
  | .eql => some (.bool (x == y))
  | .neq => some (.bool !(x == y))
  | _ => none
def eqLeaf (P : Program) (t : TypeId) (a b : (Leaf m)) : Option Bool :=
  match P.underlying t, a, b with
  | some (.int _), .int k a, .int k' b => if k = k' then some (a == b) else none
  | some .bool, .bool a, .bool b => some (a == b)
  | some .string, .str a, .str b => some (a == b)
  | _, _, _ => none
def eqFieldsV (P : Program) : Nat → List Field → List (Leaf m) → List (Leaf m) → Option Bool
  | _, [], [], [] => some true
  | j, f :: fs, a :: x, b :: y => if f.offset == j && f.name != "_" then (eqLeaf P f.type a b).bind fun e => (eqFieldsV P (j + 1) fs x y).map (e && ·) else none
  | _, _, _, _ => none
def eqStructV (P : Program) (t : TypeId) (a b : List (Leaf m)) : Option Bool :=
  match P.underlying t with
  | some (.struct fs) => if P.stoodInHeld t || P.eqGuardType P.depth t then none else eqFieldsV P 0 fs.toList a b
  | _ => none
def isBoolT (P : Program) (t : TypeId) : Bool := match P.underlying t with | some .bool => true | _ => false
def isShift : BinOp → Bool | .shl | .shr => true | _ => false
def binV (P : Program) (op : BinOp) (t : TypeId) (x y : (SV m)) : Option (SV m) :=
  match x.drop, y.drop with
  | .leaf (.int k a), .leaf (.int k' b) =>
    if isShift op = true then (intOp op k a b).map .leaf
    else if k = k' then (intOp op k a b).map .leaf else none
  | .leaf (.str a), .leaf (.str b) => (strOp op a b).map .leaf
  | .leaf (.bool a), .leaf (.bool b) => if isBoolT P t then (boolOp op a b).map .leaf else none
  | .agg a, .agg b => match op with
    | .eql => (eqStructV P t a b).map fun e => .leaf (.bool e)
    | .neq => (eqStructV P t a b).map fun e => .leaf (.bool !e)
    | _ => none
  | _, _ => none
def unV (op : UnOp) (x : (SV m)) : Option (SV m) :=
  match op, x with
  | .not, .leaf (.bool b) => some (.leaf (.bool !b))
  | .neg, .leaf (.int k n) => some (.leaf (.int k (k.wrap (0 - n))))
  | _, _ => none
def bytesOfLeaves : List (List (Leaf m)) → Option (List UInt8)
  | [] => some []
  | [.int .u8 n] :: r => (bytesOfLeaves r).map (UInt8.ofNat n.toNat :: ·)
  | _ => none
def convV (P : Program) (src dst : TypeId) (x : (SV m)) : Option (SV m) :=
  match P.underlying src, P.underlying dst, x.drop with
  | some (.int _), some (.int k), .leaf (.int _ n) => some (.leaf (.int k (k.wrap n)))
  | some .string, some .string, .leaf (.str s) => some (.leaf (.str s))
  | some (.slice e), some .string, .leaf (.sl _ es) =>
    match P.underlying e with
    | some (.int .u8) => (bytesOfLeaves es).map fun l => .leaf (.str ⟨l.toArray⟩)
    | _ => none
  | some .string, some (.slice e), .leaf (.str s) =>
    match P.underlying e with
    | some (.int .u8) => some (.leaf (.sl (Fl.kept m) (s.data.toList.map fun b => [.int .u8 b.toNat])))
    | _ => none
  | _, _, _ => none
def guarded {β : Type} (b : Bool) (x : Option β) : Option β := match b with | true => x | false => none
def sized (n : Nat) (es : List (List (Leaf m))) : Bool := es.all fun e => e.length == n
def natOf : (SV m) → Option Nat
  | .leaf (.int _ n) => if 0 ≤ n then some n.toNat else none
  | _ => none
def optNat (ρ : Operand → (SV m)) : Option Operand → Option (Option Nat)
  | none => some none
  | some x => (natOf (ρ x)).map some
def sliceV (P : Program) (t : TypeId) (x : (SV m)) (lo hi : Option Nat) : Option (SV m) :=
  match P.underlying t, x.drop with
  | some (.slice _), .bsl b z k n =>
    (elemT P t).bind fun e => (sizeT P e).bind fun z' =>
      if (lo.getD 0 ≤ hi.getD n ∧ hi.getD n ≤ n) ∧ z' = z then some (.bsl b z (k + lo.getD 0) (hi.getD n - lo.getD 0)) else none
  | some .string, .leaf (.str b) =>
    if lo.getD 0 ≤ hi.getD b.size ∧ hi.getD b.size ≤ b.size then some (.leaf (.str (b.extract (lo.getD 0) (hi.getD b.size)))) else none
  | some (.slice _), .leaf (.sl c es) =>
    (elemT P t).bind fun e => (sizeT P e).bind fun z =>
      if lo.getD 0 ≤ hi.getD es.length ∧ hi.getD es.length ≤ es.length then guarded (sized z es) (some (.leaf (.sl (c.later lo) ((es.take (hi.getD es.length)).drop (lo.getD 0))))) else none
  | _, _ => none
def slice3V (P : Program) (t : TypeId) (x : (SV m)) (lo hi mx : Option Nat) : Option (SV m) :=
  match P.underlying t, x.drop, hi, mx with
  | some (.slice _), .bsl b z k n, some h, some c =>
    (elemT P t).bind fun e => (sizeT P e).bind fun z' =>
      if ((lo.getD 0 ≤ h ∧ h ≤ c) ∧ c ≤ n) ∧ z' = z then some (.bsl b z (k + lo.getD 0) (h - lo.getD 0)) else none
  | _, _, _, _ => none
def clearV (P : Program) (argTypes : Array TypeId) (cs : List (SV m)) (z lo n : Nat) : Option (List (SV m)) :=
  (argTypes[0]?).bind fun t => (elemT P t).bind fun e => (zeroLeaves P e).bind fun ze =>
    if (ze.length = z ∧ 0 < z) ∧ (lo + n) * z ≤ cs.length then some (cs.take (lo * z) ++ (List.replicate n ze).flatten.map .leaf ++ cs.drop ((lo + n) * z)) else none
def fieldAddrV (P : Program) (t : TypeId) (x : (SV m)) (f : Nat) : Option (SV m) :=
  (fieldT P t f).bind fun (o, ft) => (sizeT P ft).bind fun n => if n = 0 then none else
    match x with
    | .ptr b p => some (.ptr b (p + o))
    | .eptr c e p => some (.eptr c e (p + o))
    | _ => none
def indexAddrV (P : Program) (t : TypeId) (x i : (SV m)) : Option (SV m) :=
  match elemT P t, x.drop, i with
  | some e, .bsl b z lo k, .leaf (.int _ n) =>
    (sizeT P e).bind fun z' => if 0 ≤ n then if n < (k : Int) then if z' = z ∧ 0 < z then some (.ptr b ((lo + n.toNat) * z)) else none else none else none
  | some e, .leaf (.sl c es), .leaf (.int _ n) =>
    (sizeT P e).bind fun z =>
      if 0 ≤ n then if n < (es.length : Int) then guarded (sized z es) (some (.eptr c (es.getD n.toNat []) 0)) else none else none
  | _, _, _ => none
def indexV (P : Program) (t : TypeId) (x i : (SV m)) : Option (SV m) :=
  match P.underlying t, x, i with
  | some .string, .leaf (.str s), .leaf (.int _ n) =>
    if 0 ≤ n then if n < (s.size : Int) then some (.leaf (.int .u8 (s.data.toList.getD n.toNat 0).toNat)) else none else none
  | _, _, _ => none
def maxBytes : Nat := 140737488355328
def zeroByte (P : Program) (e : TypeId) : Bool := match P.info? e with
  | some i => (match i.zero with | some (.int .u8 n) => n == 0 && i.size == 1 && i.bytes == 1 | _ => false)
  | none => false
def zeroSized (P : Program) (e : TypeId) : Bool := match P.info? e with
  | some i => (match i.zero with | some z => z.cells.size == i.size | none => false)
  | none => false
def appendV (P : Program) (argTypes : Array TypeId) (x y : (SV m)) : Option (SV m) :=
  match argTypes.toList, x with
  | [t, u], .own eo es =>
    (elemT P t).bind fun e => (P.info? e).bind fun i => guarded (eo.getD e == e && decide (0 < i.size) && decide (0 < i.bytes) && zeroSized P e) <|
      match P.underlying u, y.see with
      | some (.slice _), .leaf (.sl _ fs) => if t = u ∧ (es.length + fs.length) * i.bytes ≤ maxBytes then guarded (sized i.size fs) (some (.own (some e) (es ++ fs))) else none
      | some .string, .leaf (.str s) => if es.length + s.size ≤ maxBytes then guarded (zeroByte P e) (some (.own (some e) (es ++ s.data.toList.map fun b => [.int .u8 b.toNat]))) else none
      | _, _ => none
  | [t, u], .raw eo es =>
    (elemT P t).bind fun e => (P.info? e).bind fun i => guarded (eo.getD e == e && decide (0 < i.size) && decide (0 < i.bytes) && zeroSized P e) <|
      match P.underlying u, y.see with
      | some (.slice _), .leaf (.sl _ fs) => if t = u ∧ (es.length + fs.length) * i.bytes ≤ maxBytes then guarded (sized i.size fs) (some (.raw (some e) (es ++ fs))) else none
      | some .string, .leaf (.str s) => if es.length + s.size ≤ maxBytes then guarded (zeroByte P e) (some (.raw (some e) (es ++ s.data.toList.map fun b => [.int .u8 b.toNat]))) else none
      | _, _ => none
  | _, _ => none
def lenV (P : Program) (argTypes : Array TypeId) (x : (SV m)) : Option (SV m) :=
  match (argTypes[0]?).bind P.underlying, x.see with
  | some .string, .leaf (.str s) => some (.leaf (.int .i64 s.size))
  | some (.slice _), .leaf (.sl _ es) => some (.leaf (.int .i64 es.length))
  | some (.slice _), .bsl _ _ _ n => some (.leaf (.int .i64 n))
  | _, _ => none
def minV (isMax : Bool) (x y : (SV m)) : Option (SV m) :=
  match x, y with
  | .leaf (.int k a), .leaf (.int k' b) => if k = k' then some (.leaf (.int k (if isMax then (if a < b then b else a) else (if b < a then b else a)))) else none
  | _, _ => none
def kIds (cs : List (Option (Nat × Nat))) : List Nat := cs.flatMap fun | some p => [p.1] | none => []
def kRen (f : Nat → Nat) (cs : List (Option (Nat × Nat))) : List (Option (Nat × Nat)) := cs.map (Option.map fun p => (f p.1, p.2))
def SV.boxIds : (SV m) → List Nat
  | .ptr b _ => [b]
  | .bsl b _ _ _ => [b]
  | .kfn _ cs => kIds cs
  | .fn _ caps => caps.flatMap fun | .ptr b _ => [b] | .kfn _ cs => kIds cs | _ => []
  | _ => []
def addId (l : List Nat) (b : Nat) : List Nat := if l.contains b then l else l ++ [b]
def idsOf (args : List (SV m)) : List Nat := (args.flatMap SV.boxIds).foldl addId []
def placeIn (l : List Nat) (b : Nat) : Nat := l.findIdx (· == b)
def SV.ren (f : Nat → Nat) : (SV m) → (SV m)
  | .ptr b o => .ptr (f b) o
  | .bsl b z lo n => .bsl (f b) z lo n
  | .kfn g cs => .kfn g (kRen f cs)
  | .fn g caps => .fn g (caps.map fun | .ptr b o => .ptr (f b) o | .kfn g cs => .kfn g (kRen f cs) | v => v)
  | v => v
def SV.data : (SV m) → Bool
  | .leaf _ | .own _ _ | .raw _ _ | .agg _ | .nilface | .nilptr => true
  | _ => false
def SV.flat : (SV m) → Bool
  | .leaf _ | .own _ _ | .raw _ _ | .agg _ | .nilface | .nilptr | .any => true
  | _ => false
def SV.flatT : (SV m) → Bool
  | .tup vs => vs.all SV.flat
  | v => v.flat
def SV.backOk (n : Nat) : (SV m) → Bool
  | .bsl b _ _ _ => decide (b < n)
  | v => v.flatT
def SV.handed : (SV m) → Bool
  | .ptr _ _ => true
  | .bsl _ _ _ _ => true
  | .eptr _ _ _ => true
  | .any => true
  | .kfn _ _ => true
  | .fn _ caps => caps.all fun | .ptr _ _ => true | .leaf _ => true | .eptr _ _ _ => true | .any => true | .kfn _ _ => true | _ => false
  | v => v.data
def operandTmps (l : List Operand) : List Tmp := l.filterMap fun | .tmp t => some t | _ => none
def branch {β : Type} (b : Bool) (x y : Option β) : Option β := match b with | true => x | false => y
def onBool {β : Type} (v : (SV m)) (k : Bool → Option β) : Option β := match v with | .leaf (.bool b) => k b | _ => none
def onGuard {β : Type} (v : (SV m)) (want : Bool) (x y : Option β) : Option β :=
  match v with
  | .leaf (.bool b) => branch (b == want) x y
  | .skip => y
  | _ => none
section
variable {β : Type}
def callK (D : (Oracle m)) (s : (St m)) (pureHint : Bool) (f : FuncId) (args : List (SV m)) (dst : Option Tmp) (k : (St m) → Option β) : Option β :=
  guarded (args.all SV.handed) <|
    if pureHint then
      if idsOf args = [] then (D f args []).bind fun r => k (s.put dst r.1) else none
    else
      (boxesAt s.boxes (idsOf args)).bind fun cs => guarded (cs.all (·.all SV.flat)) <|
        (D f (args.map (SV.ren (placeIn (idsOf args)))) cs).bind fun r => k (({ s with boxes := putBoxes s.boxes (idsOf args) r.2 } : (St m)).put dst (r.1.ren ((idsOf args).getD · 0)))
def fillL (place : Nat → Option (Nat × TypeId)) (size : TypeId → Option Nat) (cs : List (Leaf m)) : List (Nat × (SV m)) → Option (List (Leaf m))
  | [] => some cs
  | (i, v) :: r => (place i).bind fun p => (size p.2).bind fun n => v.leaves.bind fun l =>
    if l.length = n ∧ p.1 + n ≤ cs.length then fillL place size (cs.take p.1 ++ l ++ cs.drop (p.1 + n)) r else none
def cellT (P : Program) (t : TypeId) (j : Nat) : Option TypeId :=
  match P.underlying t with
  | some (.slice e) => some e
  | some (.struct fs) => (fs.toList.find? fun f => f.offset == j).bind fun f => elemT P f.type
  | _ => none
def nlCells (P : Program) (t : TypeId) : Nat → List (Leaf m) → List (Leaf m)
  | _, [] => []
  | j, l :: r => (match l with | .sl _ [] => .nl (cellT P t j) | l => l) :: nlCells P t (j + 1) r
def fieldsInfo (P : Program) (t : TypeId) : Bool := match P.underlying t with | some (.struct fs) => fs.toList.all fun f => (P.info? f.type).isSome | _ => false
def buildV (P : Program) (t : TypeId) (ow : Bool) (parts : List (Nat × (SV m))) : Option (SV m) :=
  guarded (fieldsInfo P t) <| (zeroLeaves P t).bind fun z => (fillL (fieldT P t) (sizeT P) (match ow with | true => nlCells P t 0 z | false => z) parts).map .agg
def elemsV (z : Nat) (k : Nat) : List (Nat × (SV m)) → Option (List (List (Leaf m)))
  | [] => some []
  | (i, v) :: r => if i = k then v.leaves.bind fun l => if l.length = z then (elemsV z (k + 1) r).map (l :: ·) else none else none
def buildSliceV (P : Program) (t : TypeId) (n : Nat) (parts : List (Nat × (SV m))) : Option (SV m) :=
  (elemT P t).bind fun e => (sizeT P e).bind fun z => guarded (zeroSized P e) <|
    if n = parts.length ∧ parts.length * z ≤ 16777216 ∧ 0 < z then (elemsV z 0 parts).map (.own (some e)) else none
def isFn : (SV m) → Bool
  | .fn _ caps => caps.all fun | .ptr _ _ => true | .leaf _ => true | _ => false
  | _ => false
def capOk : (SV m) → Bool
  | .ptr _ _ => true
  | .kfn _ _ => true
  | .eptr _ _ _ => true
  | .leaf _ => true
  | _ => false
def retype (P : Program) (t : TypeId) : (SV m) → (SV m)
  | .own none [] => .own (elemT P t) []
  | v => v
def newCells (P : Program) (t : TypeId) : Nat → List (Leaf m) → List (SV m)
  | _, [] => []
  | j, l :: r => (match l with | .sl _ [] => .own (cellT P t j) [] | l => .leaf l) :: newCells P t (j + 1) r
def allocC (P : Program) (t : TypeId) : Option (List (SV m)) := match zeroLeaves (m := m) P t with
  | some z => some (newCells P t 0 z)
  | none => ((P.info? t).bind fun i => i.zero).map fun z => List.replicate z.cells.size .any
def makeV (P : Program) (t : TypeId) (l c : (SV m)) : Option ((Nat × Nat) × List (SV m)) :=
  match l, c with
  | .leaf (.int _ a), .leaf (.int _ b) =>
    (elemT P t).bind fun e => (P.info? e).bind fun i => (zeroLeaves P e).bind fun ze =>
      if (0 ≤ a ∧ a = b) ∧ (0 < i.size ∧ a.toNat * i.bytes ≤ maxBytes ∧ a.toNat ≤ maxBytes) ∧ ze.length = i.size then some ((i.size, a.toNat), ((List.replicate a.toNat ze).flatten.map .leaf)) else none
  | _, _ => none
def unK (f : FuncId) (cs : List (Option (Nat × Nat))) : (SV m) := .fn f (cs.map fun | some p => .ptr p.1 p.2 | none => .kfn f cs)
def execK (P : Program) (D : (Oracle m)) (nt : Nat) (mv pu ta : Bool) (o : Oper) (s : (St m)) (k : (St m) → Option β) : Option β :=
  match o.op with
  | .move x | .assign x => if mv then k ((s.take x).put o.dst (retype P o.type (s.eval x))) else k (s.put o.dst (s.eval x).drop)
  | .pick c a b => onBool (s.eval c) fun c => branch c (k (s.put o.dst (s.eval a).drop)) (k (s.put o.dst (s.eval b).drop))
  | .box _ x => match o.dst with
    | some d => match s.box d with
      | none => guarded (decide (d < nt) && ((s.eval x).data || isFn (s.eval x))) (k (((s.take x).setBox d (some (s.eval x).cells)).put o.dst (.ptr d 0)))
      | some _ => none
    | none => none
  | .alloc t => match o.dst with
    | some d => match s.box d with
      | none => guarded (decide (d < nt)) <| (allocC P t).bind fun z => k ((s.setBox d (some z)).put o.dst (.ptr d 0))
      | some _ => none
    | none => none
  | .makeSlice t l c => match o.dst with
    | some d => match s.box d with
      | none => guarded (decide (d < nt)) <| (makeV P t (s.eval l) (s.eval c)).bind fun p => k ((s.setBox d (some p.2)).put o.dst (.bsl d p.1.1 0 p.1.2))
      | some _ => none
    | none => none
  | .build t parts => (buildV P t mv (parts.toList.map fun p => (p.1, s.eval p.2))).bind fun v => k (s.put o.dst v)
  | .buildSlice t n parts => (buildSliceV P t n (parts.toList.map fun p => (p.1, s.eval p.2))).bind fun v => k (s.put o.dst v)
  | .load t x => match s.eval x with
    | .eptr _ e p => (partL P t e p).bind fun v => k (s.put o.dst v)
    | .kfn f cs => guarded (!isAggT P t) (k (s.put o.dst (unK f cs)))
    | .ptr b p => (s.box b).bind fun cs =>
      if isAggT P t then (sizeT P t).bind fun n => if p + n ≤ cs.length then (asLeaves ((cs.drop p).take n)).bind fun l => k (s.put o.dst (.agg l)) else none
      else (cs[p]?).bind fun c => if mv then k ((s.setBox b (some (cs.set p c.drop))).put o.dst c) else k (s.put o.dst c.drop)
    | _ => none
  | .store t x y => match s.eval x with
    | .eptr c e p => if (c.isSoft = true ∧ softAt e p = true) ∧ (s.eval y).plain = true ∧ sizeT P t = some 1 then k (s.put o.dst .skip) else none
    | .ptr b p => (s.box b).bind fun cs => (sizeT P t).bind fun n => guarded ((s.eval y).data || isFn (s.eval y)) <|
      if n = (s.eval y).cells.length ∧ p + n ≤ cs.length then k (((s.take y).setBox b (some (cs.take p ++ (s.eval y).cells ++ cs.drop (p + n)))).put o.dst .skip) else none
    | _ => none
  | .nilCheck x => match s.eval x with
    | .ptr b p => k (s.put o.dst (.ptr b p))
    | .eptr c e p => k (s.put o.dst (.eptr c e p))
    | .kfn f cs => k (s.put o.dst (.kfn f cs))
    | _ => none
  | .binOp op t x y _ => (binV P op t (s.eval x) (s.eval y)).bind fun v => k (s.put o.dst v)
  | .unOp op _ x => (unV op (s.eval x)).bind fun v => k (s.put o.dst v)
  | .convert src dst x => (convV P src dst (s.eval x)).bind fun v => k (s.put o.dst v)
  | .makeFunc fn first caps => match fn with
    | .func f => if first.size = 0 then guarded ((caps.toList.map s.eval).all capOk) (k (s.put o.dst (.fn f (caps.toList.map s.eval)))) else none
    | _ => none
  | .slice t x lo hi mx => match mx with
    | none => (optNat s.eval lo).bind fun l => (optNat s.eval hi).bind fun h => (sliceV P t (s.eval x) l h).bind fun v => k (s.put o.dst v)
    | some _ => (optNat s.eval lo).bind fun l => (optNat s.eval hi).bind fun h => (optNat s.eval mx).bind fun c => (slice3V P t (s.eval x) l h c).bind fun v => k (s.put o.dst v)
  | .fieldAddr t x f => (fieldAddrV P t (s.eval x) f).bind fun v => k (s.put o.dst v)
  | .field t x f => match s.eval x with
    | .agg cs => (fieldT P t f).bind fun p => (partL P p.2 cs p.1).bind fun v => k (s.put o.dst v)
    | _ => none
  | .indexAddr t x i => (indexAddrV P t (s.eval x) (s.eval i)).bind fun v => k (s.put o.dst v)
  | .index t x i => (indexV P t (s.eval x) (s.eval i)).bind fun v => k (s.put o.dst v)
  | .extract x i => match s.eval x with
    | .tup vs => (vs[i]?).bind fun v => k (s.put o.dst v.drop)
    | _ => none
  | .call c => match c.callee with
    | .builtin b => match b, c.args.toList with
      | .append, [x, y] => (appendV P c.argTypes (s.eval x) (s.eval y)).bind fun v => k ((s.take x).put o.dst v)
      | .len, [x] => (lenV P c.argTypes (s.eval x)).bind fun v => k (s.put o.dst v)
      | .clear, [x] => match s.eval x with
        | .bsl b z lo n => (s.box b).bind fun cs => (clearV P c.argTypes cs z lo n).bind fun cs' => k ((s.setBox b (some cs')).put o.dst .any)
        | _ => none
      | .max, [x, y] => (minV true (s.eval x) (s.eval y)).bind fun v => k (s.put o.dst v)
      | .min, [x, y] => (minV false (s.eval x) (s.eval y)).bind fun v => k (s.put o.dst v)
      | _, _ => none
    | .value g => match s.eval g with
      | .fn f caps => guarded (decide (operandTmps c.args.toList).Nodup) <| callK D (s.takes (takenL ta c.args.toList)) pu f (c.args.toList.map (argV ta s.eval) ++ caps) o.dst k
      | _ => none
    | .invoke _ _ => none
  | _ => none
def stepK (P : Program) (D : (Oracle m)) (nt : Nat) (mv pu ta : Bool) (ops : Array Oper) (o : Oper) (s : (St m)) (k : (St m) → Option β) : Option β :=
  match o.guard with
  | none => execK P D nt mv pu ta o s k
  | some (j, want) => match (ops[j]?).bind (·.dst) with
    | some t => onGuard (s.tmps.getD t .any) want (execK P D nt mv pu ta o s k) (k (s.put o.dst .skip))
    | none => none
def stepsK (P : Program) (D : (Oracle m)) (nt : Nat) (mv pu ta : Nat → Bool) (ops : Array Oper) : List Oper → Nat → (St m) → ((St m) → Option β) → Option β
  | [], _, s, k => k s
  | o :: r, i, s, k => stepK P D nt (mv i) (pu i) (ta i) ops o s fun s' => stepsK P D nt mv pu ta ops r (i + 1) s' k
end
def opTakes (mv : Bool) (o : Oper) : List Tmp :=
  match o.op with
  | .move x | .assign x => if mv then operandTmps [x] else []
  | .box _ x => operandTmps [x]
  | .store _ _ y => operandTmps [y]
  | .call c => match c.callee with
    | .builtin .append => operandTmps (c.args.toList.take 1)
    | .value _ => operandTmps c.args.toList
    | _ => []
  | _ => []
def opWrites (mv : Bool) (o : Oper) : List Tmp := o.dst.toList ++ opTakes mv o
def opBoxes (mv pu ta : Bool) (o : Oper) : Nat :=
  match o.op with
  | .load _ _ => if mv then 2 else 1
  | .box _ _ | .alloc _ | .store _ _ _ | .makeSlice _ _ _ => 2
  | .call c => match c.callee with
    | .value _ => if pu then 0 else 2
    | .builtin .clear => 2
    | _ => 0
  | _ => 0
def opFresh (o : Oper) : Bool := match o.op with | .box _ _ | .alloc _ | .makeSlice _ _ _ => true | _ => false
def apartV (mv pu ta : Nat → Bool) (ops : Array Oper) (i j : Nat) (x y : Oper) : Bool :=
  (opWrites (mv i) x).all (fun t => !(y.looksAt ops).contains t && !(opWrites (mv j) y).contains t) &&
  (opWrites (mv j) y).all (fun t => !(x.looksAt ops).contains t) &&
  (opBoxes (mv i) (pu i) (ta i) x == 0 || opBoxes (mv j) (pu j) (ta j) y == 0 || (opBoxes (mv i) (pu i) (ta i) x == 1 && (opBoxes (mv j) (pu j) (ta j) y == 1 || opFresh y)))
def waits (ops : Array Oper) : Nat → Nat → Nat → Bool
  | 0, _, _ => false
  | n + 1, j, k => match ops[j]? with
    | some o => o.after.any fun e => Region.binds .any e && (e.on == k || waits ops n e.on k)
    | none => false
def okFrom (mv pu ta : Nat → Bool) (ops : Array Oper) : Nat → Nat → Array Bool → Bool
  | 0, _, listed => (Region.ready .any ops listed).isEmpty
  | n + 1, k, listed =>
    (Region.ready .any ops listed).contains k &&
    (List.range ops.size).all (fun j => j == k || listed.getD j true ||
      (match ops[k]?, ops[j]? with
       | some x, some y => y.after.any (fun e => Region.binds .any e && e.on == k) || (apartV mv pu ta ops k j x y || waits ops 8 j k)
       | _, _ => false)) &&
    okFrom mv pu ta ops n (k + 1) (listed.setIfInBounds k true)
def okRegion (mv pu ta : Nat → Bool) (ops : Array Oper) : Bool := okFrom mv pu ta ops ops.size 0 (Array.replicate ops.size false)
inductive Out (m : Bool) where
  | norm (s : (St m))
  | exit (id : Nat) (s : (St m))
  | ret (s : (St m))
def St.forget (s : (St m)) (ts bs : List Nat) : (St m) :=
  { tmps := ts.foldl (fun l t => l.set t .any) s.tmps, boxes := bs.foldl (fun l b => l.set b none) s.boxes }
def SV.noPtr (bs : List Nat) : (SV m) → Bool | .ptr b _ => !bs.contains b | .bsl b _ _ _ => !bs.contains b | .kfn _ cs => (kIds cs).all fun b => !bs.contains b | _ => true
def SV.noBox (bs : List Nat) : (SV m) → Bool
  | .fn _ caps => caps.all (SV.noPtr bs)
  | .tup vs => vs.all (SV.noPtr bs)
  | v => v.noPtr bs
def St.noBox (s : (St m)) (bs : List Nat) : Bool := bs.isEmpty || (s.tmps.all (SV.noBox bs) && s.boxes.all fun | some cs => cs.all (SV.noBox bs) | none => true)
def St.again (s : (St m)) (ts bs : List Nat) : Option (St m) := guarded ((s.forget ts bs).noBox bs) (some (s.forget ts bs))
def SV.refs : (SV m) → List Nat
  | .fn _ caps => caps.flatMap SV.boxIds
  | .tup vs => vs.flatMap SV.boxIds
  | v => v.boxIds
def St.refs (s : (St m)) : List Nat := s.tmps.flatMap SV.refs ++ s.boxes.flatMap fun | some cs => cs.flatMap SV.refs | none => []
def St.tidy (s : (St m)) (ts : List Nat) : List Nat → (St m)
  | [] => s.forget ts []
  | b :: bs => (s.again ts ((b :: bs).filter fun b => !(s.forget ts []).refs.contains b)).getD (s.forget ts [])
def SV.frzF (b : Nat) (ls : List (Leaf m)) : (SV m) → (SV m)
  | .ptr b' o => if b' = b then .eptr (Fl.kept m) ls o else .ptr b' o
  | .bsl b' z lo n => if b' = b then .any else .bsl b' z lo n
  | .kfn f cs => if (kIds cs).contains b = true then .any else .kfn f cs
  | v => v
def SV.lift (φ : (SV m) → (SV m)) : (SV m) → (SV m)
  | .fn g caps => .fn g (caps.map φ)
  | .tup vs => .tup (vs.map φ)
  | .own e es => .own e es
  | .raw e es => .raw e es
  | v => φ v
def St.froz (s : (St m)) (b : Nat) (φ : (SV m) → (SV m)) : (St m) := { tmps := s.tmps.map (SV.lift φ), boxes := (s.boxes.set b none).map (Option.map (List.map (SV.lift φ))) }
def kCaps (b : Nat) : List (SV m) → Option (List (Option (Nat × Nat)))
  | [] => some []
  | .ptr b' o :: r => if b' = b then (if o = 0 then (kCaps b r).map (none :: ·) else none) else (kCaps b r).map (some (b', o) :: ·)
  | _ :: _ => none
def SV.frkF (b : Nat) (f : FuncId) (cs : List (Option (Nat × Nat))) : (SV m) → (SV m)
  | .ptr b' o => if b' = b then (if o = 0 then .kfn f cs else .any) else .ptr b' o
  | .bsl b' z lo n => if b' = b then .any else .bsl b' z lo n
  | .kfn f' cs' => if (kIds cs').contains b = true then .any else .kfn f' cs'
  | v => v
def St.freeze1 (s : (St m)) (b : Nat) : (St m) := match (boxAt s.boxes b).bind asLeaves with
  | some [] => s
  | some (l :: ls) => s.froz b (SV.frzF b (l :: ls))
  | none => match boxAt s.boxes b with
    | some [.fn f caps] => match kCaps b caps with
      | some cs => s.froz b (SV.frkF b f cs)
      | none => s
    | _ => s
def rowC (es : List (List (Leaf m))) : List (SV m) := es.flatten.map .leaf
def St.mend (s : (St m)) (nt t k : Nat) : (St m) := match k, s.tmps.getD t .any with
  | 1, .raw e es => { s with tmps := s.tmps.set t (.own e es) }
  | 2, .own e [] => { s with tmps := s.tmps.set t (.raw e []) }
  | k + 3, .raw _ es => match boxAt s.boxes t, decide (t < nt ∧ t < s.boxes.length) with
    | none, true => { tmps := s.tmps.set t (.bsl t k 0 es.length), boxes := s.boxes.set t (some (rowC es)) }
    | _, _ => s
  | _, _ => s
def St.freeze (nt : Nat) (s : (St m)) : List Nat → (St m)
  | [] => s
  | b :: bs => (match b / 4096 with | 0 => s.freeze1 b | k + 1 => s.mend nt (b % 4096) (k + 1)).freeze nt bs
def St.dropC (s : (St m)) (d : Nat → List Nat × List Nat) : Operand → (St m)
  | .tmp t => s.tidy (d t).1 (d t).2
  | _ => s
def rounds (body : (St m) → Option (Out m)) (again : (St m) → Option (St m)) : Nat → (St m) → Option (Out m)
  | 0, _ => none
  | n + 1, s => (again s).bind fun s => (body s).bind fun
    | .norm s' => rounds body again n s'
    | o => some o
def seqK {β : Type} (f : (St m) → Option β) (k : (Out m) → Option β) : (Out m) → Option β
  | .norm s => f s
  | .exit id s => k (.exit id s)
  | .ret s => k (.ret s)
def blockK {β : Type} (id : Nat) (k : (Out m) → Option β) : (Out m) → Option β
  | .norm s => k (.norm s)
  | .exit id' s => if id' = id then k (.norm s) else k (.exit id' s)
  | .ret s => k (.ret s)
def codeK {β : Type} (P : Program) (D : (Oracle m)) (H : Hints) (loop : ((St m) → Option (Out m)) → ((St m) → Option (St m)) → (St m) → Option (Out m)) : Nat → Code → (St m) → ((Out m) → Option β) → Option β
  | _, .skip, s, k => k (.norm s)
  | _, .region id ops draw, s, k => guarded (!draw || okRegion (H.mv id) (H.pure id) (H.take id) ops) (stepsK P D H.nt (H.mv id) (H.pure id) (H.take id) ops ops.toList 0 s fun s' => k (.norm (St.freeze H.nt (s'.tidy (H.after id) (H.afterB id)) (H.fz id))))
  | blk, .seq a b, s, k => codeK P D H loop blk a s (seqK (fun s' => codeK P D H loop blk b s' k) k)
  | blk, .cond c a b, s, k => onBool (s.eval c) fun t => branch t (codeK P D H loop blk a (s.dropC H.condA c) k) (codeK P D H loop blk b (s.dropC H.condB c) k)
  | _, .block id a, s, k => codeK P D H loop id a s (blockK id k)
  | blk, .loop a, s, k => (loop (fun s => codeK P D H loop blk a s some) (fun s => s.again (H.clear blk) (H.drop blk)) s).bind k
  | _, .exit id, s, k => k (.exit id s)
  | _, .ret, s, k => k (.ret s)
  | _, _, _, _ => none
def padTo (n : Nat) (l : List (SV m)) : List (SV m) := l ++ List.replicate (n - l.length) .any
def chunks {α : Type} (z : Nat) : Nat → List α → List (List α)
  | 0, _ => []
  | n + 1, l => l.take z :: chunks z n (l.drop z)
def full : Option (List (SV m)) → Bool | some (_ :: _) => true | _ => false
def sealV (nt : Nat) (s : (St m)) : (SV m) → Option (SV m)
  | .bsl b z lo n => if b < nt ∧ lo = 0 then (s.box b).bind fun cs => if n * z ≤ cs.length ∧ 0 < z then (asLeaves (cs.take (n * z))).map fun l => .leaf (.sl (Fl.new m) (chunks z n l)) else none else if nt ≤ b then some (.bsl b z lo n) else none
  | v => some v
def resOne (P : Program) (nt : Nat) (s : (St m)) : ResultVar → Option (SV m)
  | .tmp t => sealV nt s (s.tmps.getD t .any)
  | .cell a t => match s.tmps.getD a .any with
    | .ptr b p => (s.box b).bind fun cs =>
      if isAggT P t then (sizeT P t).bind fun n => if p + n ≤ cs.length then (asLeaves ((cs.drop p).take n)).map .agg else none
      else if b < nt then cs[p]? else none
    | _ => none
def resAll (P : Program) (nt : Nat) (s : (St m)) : List ResultVar → Option (List (SV m))
  | [] => some []
  | r :: rs => (resOne P nt s r).bind fun v => (resAll P nt s rs).map (v.drop :: ·)
def resultV (P : Program) (fn : Func) (s : (St m)) : Option (SV m) :=
  match fn.results.toList with
  | [r] => resOne P fn.ntmps s r
  | rs => (resAll P fn.ntmps s rs).map .tup
def SV.homeOk (nt n : Nat) : (SV m) → Bool
  | .bsl b _ _ _ => decide (nt ≤ b) && decide (b < nt + n)
  | v => v.flatT
def enterV (fn : Func) (args : List (SV m)) (boxes : List (List (SV m))) : (St m) :=
  { tmps := padTo fn.ntmps (args.map (SV.ren (fn.ntmps + ·))), boxes := List.replicate fn.ntmps none ++ boxes.map some }
def leaveV (P : Program) (fn : Func) (n : Nat) (s : (St m)) : Option ((SV m) × List (List (SV m))) :=
  (resultV P fn s).bind fun v => guarded (SV.homeOk fn.ntmps n v) <|
    (boxesAt s.boxes ((List.range n).map (fn.ntmps + ·))).bind fun cs => guarded (cs.all (·.all SV.flat)) (some (v.ren (· - fn.ntmps), cs))
def endK (P : Program) (fn : Func) (n : Nat) : (Out m) → Option ((SV m) × List (List (SV m)))
  | .norm s => leaveV P fn n s
  | .ret s => leaveV P fn n s
  | .exit _ _ => none
def runV (P : Program) (D : (Oracle m)) (H : FuncId → Hints) (loop : ((St m) → Option (Out m)) → ((St m) → Option (St m)) → (St m) → Option (Out m)) : (Oracle m) := fun f args boxes =>
  match P.funcs[f]? with
  | some fn => match fn.body with
    | some c => codeK P D ((H f).fit fn.ntmps) loop 0 c (St.freeze fn.ntmps (enterV fn args boxes) ((H f).fz 1048576)) (endK P fn boxes.length)
    | none => none
  | none => none
abbrev Told (m : Bool) := FuncId → Option (List (SV m) → List (List (SV m)) → Option ((SV m) × List (List (SV m))))
def callN (P : Program) (T : (Told m)) (H : FuncId → Hints) : Nat → (Oracle m)
  | 0 => fun _ _ _ => none
  | n + 1 => fun f args boxes => match T f with
    | some t => t args boxes
    | none => runV P (callN P T H n) H (fun body again s => rounds body again n s) f args boxes
end Go.Vs
end
section
set_option linter.unusedVariables false
set_option linter.unusedSimpArgs false
namespace Go.Vs
variable {m : Bool}
structure Eff (m : Bool) where
  tmps : List (Tmp × (SV m))
  boxes : Option (Boxes m)
def Eff.app (e : (Eff m)) (s : (St m)) : (St m) := { tmps := setAll s.tmps e.tmps, boxes := e.boxes.getD s.boxes }
def dstE (dst : Option Tmp) (v : (SV m)) : List (Tmp × (SV m)) := match dst with | some d => [(d, v)] | none => []
theorem setAll_append (l : List (SV m)) (a b : List (Tmp × (SV m))) : setAll l (a ++ b) = setAll (setAll l a) b := by simp [setAll]
theorem put_eq (s : (St m)) (dst : Option Tmp) (v : (SV m)) : s.put dst v = { s with tmps := setAll s.tmps (dstE dst v) } := by
  cases dst <;> simp [St.put, dstE, setAll]
def callE (D : (Oracle m)) (bs : (Boxes m)) (pureHint : Bool) (f : FuncId) (args : List (SV m)) : Option ((SV m) × Option (Boxes m)) :=
  guarded (args.all SV.handed) <|
    if pureHint then
      if idsOf args = [] then (D f args []).map fun r => (r.1, none) else none
    else
      (boxesAt bs (idsOf args)).bind fun cs => guarded (cs.all (·.all SV.flat)) <|
        (D f (args.map (SV.ren (placeIn (idsOf args)))) cs).map fun r => (r.1.ren ((idsOf args).getD · 0), some (putBoxes bs (idsOf args) r.2))
def effO (P : Program) (D : (Oracle m)) (nt : Nat) (mv pu ta : Bool) (o : Oper) (ρ : Operand → (SV m)) (bs : (Boxes m)) : Option (Eff m) :=
  let val (v : Option (SV m)) : Option (Eff m) := v.map fun v => ⟨dstE o.dst v, none⟩
  match o.op with
  | .move x | .assign x => if mv then some ⟨takeE ρ x ++ dstE o.dst (retype P o.type (ρ x)), none⟩ else some ⟨dstE o.dst (ρ x).drop, none⟩
  | .pick c a b => onBool (ρ c) fun c => branch c (some ⟨dstE o.dst (ρ a).drop, none⟩) (some ⟨dstE o.dst (ρ b).drop, none⟩)
  | .box _ x => match o.dst with
    | some d => match boxAt bs d with
      | none => guarded (decide (d < nt) && ((ρ x).data || isFn (ρ x))) (some ⟨takeE ρ x ++ [(d, .ptr d 0)], some (bs.set d (some (ρ x).cells))⟩)
      | some _ => none
    | none => none
  | .alloc t => match o.dst with
    | some d => match boxAt bs d with
      | none => guarded (decide (d < nt)) <| (allocC P t).map fun z => ⟨[(d, .ptr d 0)], some (bs.set d (some z))⟩
      | some _ => none
    | none => none
  | .makeSlice t l c => match o.dst with
    | some d => match boxAt bs d with
      | none => guarded (decide (d < nt)) <| (makeV P t (ρ l) (ρ c)).map fun p => ⟨[(d, .bsl d p.1.1 0 p.1.2)], some (bs.set d (some p.2))⟩
      | some _ => none
    | none => none
  | .build t parts => val (buildV P t mv (parts.toList.map fun p => (p.1, ρ p.2)))
  | .buildSlice t n parts => val (buildSliceV P t n (parts.toList.map fun p => (p.1, ρ p.2)))
  | .load t x => match ρ x with
    | .eptr _ e p => val (partL P t e p)
    | .kfn f cs => guarded (!isAggT P t) (val (some (unK f cs)))
    | .ptr b p => (boxAt bs b).bind fun cs =>
      if isAggT P t then (sizeT P t).bind fun n => if p + n ≤ cs.length then (asLeaves ((cs.drop p).take n)).map fun l => ⟨dstE o.dst (.agg l), none⟩ else none
      else (cs[p]?).map fun c => if mv then ⟨dstE o.dst c, some (bs.set b (some (cs.set p c.drop)))⟩ else ⟨dstE o.dst c.drop, none⟩
    | _ => none
  | .store t x y => match ρ x with
    | .eptr c e p => if (c.isSoft = true ∧ softAt e p = true) ∧ (ρ y).plain = true ∧ sizeT P t = some 1 then val (some .skip) else none
    | .ptr b p => (boxAt bs b).bind fun cs => (sizeT P t).bind fun n => guarded ((ρ y).data || isFn (ρ y)) <|
      if n = (ρ y).cells.length ∧ p + n ≤ cs.length then some ⟨takeE ρ y ++ dstE o.dst .skip, some (bs.set b (some (cs.take p ++ (ρ y).cells ++ cs.drop (p + n))))⟩ else none
    | _ => none
  | .nilCheck x => match ρ x with
    | .ptr b p => val (some (.ptr b p))
    | .eptr c e p => val (some (.eptr c e p))
    | .kfn f cs => val (some (.kfn f cs))
    | _ => none
  | .binOp op t x y _ => val (binV P op t (ρ x) (ρ y))
  | .unOp op _ x => val (unV op (ρ x))
  | .convert src dst x => val (convV P src dst (ρ x))
  | .makeFunc fn first caps => match fn with
    | .func f => if first.size = 0 then guarded ((caps.toList.map ρ).all capOk) (val (some (.fn f (caps.toList.map ρ)))) else none
    | _ => none
  | .slice t x lo hi mx => match mx with
    | none => (optNat ρ lo).bind fun l => (optNat ρ hi).bind fun h => val (sliceV P t (ρ x) l h)
    | some _ => (optNat ρ lo).bind fun l => (optNat ρ hi).bind fun h => (optNat ρ mx).bind fun c => val (slice3V P t (ρ x) l h c)
  | .fieldAddr t x f => val (fieldAddrV P t (ρ x) f)
  | .field t x f => match ρ x with
    | .agg cs => (fieldT P t f).bind fun p => val (partL P p.2 cs p.1)
    | _ => none
  | .indexAddr t x i => val (indexAddrV P t (ρ x) (ρ i))
  | .index t x i => val (indexV P t (ρ x) (ρ i))
  | .extract x i => match ρ x with
    | .tup vs => (vs[i]?).bind fun v => val (some v.drop)
    | _ => none
  | .call c => match c.callee with
    | .builtin b => match b, c.args.toList with
      | .append, [x, y] => (appendV P c.argTypes (ρ x) (ρ y)).map fun v => ⟨takeE ρ x ++ dstE o.dst v, none⟩
      | .len, [x] => val (lenV P c.argTypes (ρ x))
      | .clear, [x] => match ρ x with
        | .bsl b z lo n => (boxAt bs b).bind fun cs => (clearV P c.argTypes cs z lo n).map fun cs' => ⟨dstE o.dst .any, some (bs.set b (some cs'))⟩
        | _ => none
      | .max, [x, y] => val (minV true (ρ x) (ρ y))
      | .min, [x, y] => val (minV false (ρ x) (ρ y))
      | _, _ => none
    | .value g => match ρ g with
      | .fn f caps => guarded (decide (operandTmps c.args.toList).Nodup) <| (callE D bs pu f (c.args.toList.map (argV ta ρ) ++ caps)).map fun r => ⟨(takenL ta c.args.toList).flatMap (takeE ρ) ++ dstE o.dst r.1, r.2⟩
      | _ => none
    | .invoke _ _ => none
  | _ => none
theorem exec_eff {β : Type} (P : Program) (D : (Oracle m)) (nt : Nat) (mv pu ta : Bool) (o : Oper) (s : (St m)) (k : (St m) → Option β) :
    execK P D nt mv pu ta o s k = (effO P D nt mv pu ta o s.eval s.boxes).bind fun e => k (e.app s) := by
  obtain ⟨dst, op, type, pos, after, guard⟩ := o
  have hd : ∀ v, s.put dst v = (⟨dstE dst v, none⟩ : (Eff m)).app s := fun v => by rw [put_eq]; rfl
  have ht : ∀ x v, (s.take x).put dst v = (⟨takeE s.eval x ++ dstE dst v, none⟩ : (Eff m)).app s := fun x v => by
    rw [put_eq]; simp [St.take, St.takes, Eff.app, setAll_append]
  cases op
  case move x => simp only [execK, effO]; split <;> simp [hd, ht]
  case assign x => simp only [execK, effO]; split <;> simp [hd, ht]
  case pick c a b =>
    simp only [execK, effO, hd]
    cases s.eval c <;> simp [onBool]
    rename_i l
    cases l <;> simp
    rename_i b
    cases b <;> simp [branch]
  case box t x =>
    simp only [execK, effO]
    cases dst with
    | none => rfl
    | some d =>
      simp only [St.box]
      cases boxAt s.boxes d with
      | some _ => rfl
      | none =>
        simp only
        cases (decide (d < nt) && ((s.eval x).data || isFn (s.eval x))) <;> simp [guarded]
        congr 1
        simp [Eff.app, St.put, St.setBox, St.take, St.takes, setAll]
  case alloc t =>
    simp only [execK, effO]
    cases dst with
    | none => rfl
    | some d =>
      simp only [St.box]
      cases boxAt s.boxes d with
      | some _ => rfl
      | none => cases decide (d < nt) <;> cases allocC (m := m) P t <;> simp [guarded, Eff.app, St.put, St.setBox, setAll]
  case makeSlice t l c =>
    simp only [execK, effO]
    cases dst with
    | none => rfl
    | some d =>
      simp only [St.box]
      cases boxAt s.boxes d with
      | some _ => rfl
      | none => cases decide (d < nt) <;> cases makeV P t (s.eval l) (s.eval c) <;> simp [guarded, Eff.app, St.put, St.setBox, setAll]
  case build t parts => simp only [execK, effO, hd]; cases buildV P t mv (parts.toList.map fun p => (p.1, s.eval p.2)) <;> simp
  case buildSlice t n parts => simp only [execK, effO, hd]; cases buildSliceV P t n (parts.toList.map fun p => (p.1, s.eval p.2)) <;> simp
  case load t x =>
    simp only [execK, effO, hd]
    cases s.eval x <;> simp only [Option.bind_none]
    · rename_i b p
      simp only [St.box]
      cases boxAt s.boxes b with
      | none => rfl
      | some cs =>
        simp only [Option.bind_some]
        split
        · cases sizeT P t with
          | none => rfl
          | some n =>
            simp only [Option.bind_some]
            split
            · cases asLeaves ((cs.drop p).take n) <;> simp
            · rfl
        · cases cs[p]? with
          | none => rfl
          | some c => cases mv <;> simp [Eff.app, St.put, St.setBox, dstE, setAll] <;> cases dst <;> simp
    · rename_i c e p
      cases partL P t e p <;> simp
    · cases (!isAggT P t) <;> simp [guarded]
  case store t x y =>
    simp only [execK, effO]
    cases s.eval x <;> simp only [Option.bind_none]
    rotate_left
    · rename_i c e p
      split
      · simp [hd]
      · rfl
    rename_i b p
    simp only [St.box]
    cases boxAt s.boxes b with
    | none => rfl
    | some cs =>
      simp only [Option.bind_some]
      cases sizeT P t with
      | none => rfl
      | some n =>
        simp only [Option.bind_some]
        cases ((s.eval y).data || isFn (s.eval y)) <;> simp only [guarded, Option.bind_none]
        split
        · simp only [Option.bind_some]
          congr 1
          rw [put_eq]
          simp [Eff.app, St.setBox, St.take, St.takes, setAll_append]
        · rfl
  case nilCheck x => simp only [execK, effO, hd]; cases s.eval x <;> simp
  case binOp op t x y u => simp only [execK, effO, hd]; cases binV P op t (s.eval x) (s.eval y) <;> simp
  case unOp op t x => simp only [execK, effO, hd]; cases unV op (s.eval x) <;> simp
  case convert a b x => simp only [execK, effO, hd]; cases convV P a b (s.eval x) <;> simp
  case makeFunc fn first caps =>
    simp only [execK, effO, hd]
    cases fn <;> simp only [Option.bind_none]
    split
    · cases (caps.toList.map s.eval).all capOk <;> simp [guarded]
    · rfl
  case slice t x lo hi mx =>
    simp only [execK, effO, hd]
    cases mx with
    | none =>
      cases optNat s.eval lo with
      | none => rfl
      | some l =>
        cases optNat s.eval hi with
        | none => rfl
        | some h => simp only [Option.bind_some]; cases sliceV P t (s.eval x) l h <;> simp
    | some mx =>
      simp only
      cases optNat s.eval lo with
      | none => rfl
      | some l =>
        cases optNat s.eval hi with
        | none => rfl
        | some h =>
          simp only [Option.bind_some]
          cases optNat s.eval (some mx) with
          | none => rfl
          | some c => simp only [Option.bind_some]; cases slice3V P t (s.eval x) l h c <;> simp
  case fieldAddr t x f => simp only [execK, effO, hd]; cases fieldAddrV P t (s.eval x) f <;> simp
  case field t x f =>
    simp only [execK, effO, hd]
    cases s.eval x <;> simp only [Option.bind_none]
    rename_i cs
    cases fieldT P t f with
    | none => rfl
    | some p => simp only [Option.bind_some]; cases partL P p.2 cs p.1 <;> simp
  case indexAddr t x i => simp only [execK, effO, hd]; cases indexAddrV P t (s.eval x) (s.eval i) <;> simp
  case index t x i => simp only [execK, effO, hd]; cases indexV P t (s.eval x) (s.eval i) <;> simp
  case extract x i =>
    simp only [execK, effO, hd]
    cases s.eval x <;> simp only [Option.bind_none]
    rename_i vs
    cases vs[i]? <;> simp
  case call c =>
    simp only [execK, effO, hd]
    cases c.callee with
    | invoke _ _ => rfl
    | builtin b =>
      simp only
      generalize c.args.toList = l
      cases b <;> (try rfl) <;> (rcases l with _ | ⟨x, _ | ⟨y, _ | ⟨z, r⟩⟩⟩ <;> (try rfl))
      · simp only [ht]; cases appendV P c.argTypes (s.eval x) (s.eval y) <;> rfl
      · simp only
        cases s.eval x <;> simp only [Option.bind_none]
        rename_i b z lo n
        simp only [St.box]
        cases boxAt s.boxes b with
        | none => rfl
        | some cs =>
          simp only [Option.bind_some]
          cases clearV P c.argTypes cs z lo n with
          | none => rfl
          | some cs' =>
            simp only [Option.bind_some, Option.map_some]
            congr 1
            rw [put_eq]
            simp [Eff.app, St.setBox]
      · simp only; cases lenV P c.argTypes (s.eval x) <;> rfl
      · simp only; cases minV true (s.eval x) (s.eval y) <;> rfl
      · simp only; cases minV false (s.eval x) (s.eval y) <;> rfl
    | value g =>
      simp only
      cases s.eval g <;> simp only [Option.bind_none]
      rename_i f caps
      simp only [callK, callE]
      cases decide (operandTmps c.args.toList).Nodup <;> simp only [guarded, Option.bind_none]
      cases (c.args.toList.map (argV ta s.eval) ++ caps).all SV.handed <;> simp only [guarded, Option.map_none, Option.bind_none]
      cases pu
      · simp only [Bool.false_eq_true, if_false, St.takes]
        cases boxesAt s.boxes (idsOf (c.args.toList.map (argV ta s.eval) ++ caps)) with
        | none => rfl
        | some cs =>
          simp only [Option.bind_some]
          cases cs.all (·.all SV.flat) <;> simp only [Option.map_none, Option.bind_none]
          cases D f ((c.args.toList.map (argV ta s.eval) ++ caps).map (SV.ren (placeIn (idsOf (c.args.toList.map (argV ta s.eval) ++ caps))))) cs with
          | none => rfl
          | some r =>
            simp only [Option.bind_some, Option.map_some]
            congr 1
            rw [put_eq]
            simp [Eff.app, setAll_append]
      · simp only [if_true]
        split
        · cases D f (c.args.toList.map (argV ta s.eval) ++ caps) [] with
          | none => rfl
          | some r =>
            simp only [Option.bind_some, Option.map_some]
            congr 1
            rw [put_eq]
            simp [Eff.app, St.takes, setAll_append]
        · rfl
  all_goals rfl
end Go.Vs
end
section
namespace Go.Vs
variable {m : Bool}
section
variable {P : Program} {D : (Oracle m)} {ops : Array Oper} {nt : Nat} {mv pu ta : Nat → Bool}
def stepE (P : Program) (D : (Oracle m)) (nt : Nat) (mv pu ta : Bool) (ops : Array Oper) (o : Oper) (s : (St m)) : Option (Eff m) :=
  match o.guard with
  | none => effO P D nt mv pu ta o s.eval s.boxes
  | some (j, want) => match (ops[j]?).bind (·.dst) with
    | some t => onGuard (s.tmps.getD t .any) want (effO P D nt mv pu ta o s.eval s.boxes) (some ⟨dstE o.dst .skip, none⟩)
    | none => none
theorem onGuard_bind {α β : Type} (v : (SV m)) (want : Bool) (x y : Option α) (f : α → Option β) : (onGuard v want x y).bind f = onGuard v want (x.bind f) (y.bind f) := by
  unfold onGuard
  cases v <;> try rfl
  rename_i l
  cases l <;> try rfl
  rename_i b
  simp only [branch]
  cases b == want <;> rfl
theorem stepK_eff {β : Type} (mv pu ta : Bool) (o : Oper) (s : (St m)) (k : (St m) → Option β) :
    stepK P D nt mv pu ta ops o s k = (stepE P D nt mv pu ta ops o s).bind fun e => k (e.app s) := by
  unfold stepK stepE
  cases o.guard with
  | none => exact exec_eff ..
  | some g =>
    obtain ⟨j, want⟩ := g
    simp only
    cases (ops[j]?).bind (·.dst) with
    | none => rfl
    | some t =>
      simp only [onGuard_bind, exec_eff, Option.bind_some]
      rw [put_eq]; rfl
theorem takeE_congr {ρ ρ' : Operand → (SV m)} {x : Operand} (h : ρ x = ρ' x) : takeE ρ x = takeE ρ' x := by cases x <;> simp_all [takeE]
theorem optNat_congr {ρ ρ' : Operand → (SV m)} {x : Option Operand} (h : ∀ y ∈ x.toArray, ρ y = ρ' y) : optNat ρ x = optNat ρ' x := by cases x <;> simp_all [optNat]
theorem flatMap_takeE_congr {ρ ρ' : Operand → (SV m)} {l : List Operand} (h : ∀ y ∈ l, ρ y = ρ' y) : l.flatMap (takeE ρ) = l.flatMap (takeE ρ') := by
  induction l with
  | nil => rfl
  | cons x l ih => simp only [List.flatMap_cons]; rw [takeE_congr (h x (by simp)), ih fun y hy => h y (by simp [hy])]
theorem effO_congr {mv pu ta : Bool} {o : Oper} {ρ ρ' : Operand → (SV m)} {bs bs' : (Boxes m)} (h : ∀ x ∈ o.op.operands, ρ x = ρ' x) (hb : opBoxes mv pu ta o ≠ 0 → bs = bs') :
    effO P D nt mv pu ta o ρ bs = effO P D nt mv pu ta o ρ' bs' := by
  obtain ⟨dst, op, type, pos, after, guard⟩ := o
  have pairs : ∀ ps : Array (Nat × Operand), (∀ x ∈ (ps.toList.map (·.2)), ρ x = ρ' x) → (ps.toList.map fun p => (p.1, ρ p.2)) = (ps.toList.map fun p => (p.1, ρ' p.2)) := fun ps hp =>
    List.map_congr_left fun p hm => by rw [hp p.2 (List.mem_map.2 ⟨p, hm, rfl⟩)]
  cases op
  case build t ps => simp only [effO]; rw [pairs ps fun x hx => h x (by simpa [Op.operands] using hx)]
  case buildSlice t n ps => simp only [effO]; rw [pairs ps fun x hx => h x (by simpa [Op.operands] using hx)]
  case makeFunc fn first caps =>
    simp only [effO]
    rw [List.map_congr_left (l := caps.toList) (g := ρ') fun x hx => h x (by simp only [Op.operands, Array.mem_append]; exact .inr (by simpa using hx))]
  case slice t x lo hi mx =>
    simp only [effO]
    cases mx with
    | some mx =>
      simp only
      rw [h x (by simp [Op.operands]), optNat_congr (x := lo) fun y hy => h y (by simp only [Op.operands, Array.mem_append]; exact .inl (.inl (.inr hy))),
        optNat_congr (x := hi) fun y hy => h y (by simp only [Op.operands, Array.mem_append]; exact .inl (.inr hy)),
        optNat_congr (x := some mx) fun y hy => h y (by simp only [Op.operands, Array.mem_append]; exact .inr hy)]
    | none =>
      simp only
      rw [h x (by simp [Op.operands]), optNat_congr (x := lo) fun y hy => h y (by simp only [Op.operands, Array.mem_append]; exact .inl (.inl (.inr hy))),
        optNat_congr (x := hi) fun y hy => h y (by simp only [Op.operands, Array.mem_append]; exact .inl (.inr hy))]
  case call c =>
    simp only [effO]
    have hargs : ∀ x ∈ c.args.toList, ρ x = ρ' x := fun x hx => h x (by simp only [Op.operands, Call.operands, Array.mem_append]; exact .inr (by simpa using hx))
    cases hc : c.callee with
    | invoke _ _ => rfl
    | builtin b =>
      simp only
      generalize c.args.toList = l at hargs
      cases b <;> (try rfl) <;> (rcases l with _ | ⟨x, _ | ⟨y, _ | ⟨z, r⟩⟩⟩ <;> (try rfl))
      · simp only; rw [hargs x (by simp), hargs y (by simp), takeE_congr (hargs x (by simp))]
      · simp only; rw [hargs x (by simp), hb (by simp [opBoxes, hc])]
      · simp only; rw [hargs x (by simp)]
      · simp only; rw [hargs x (by simp), hargs y (by simp)]
      · simp only; rw [hargs x (by simp), hargs y (by simp)]
    | value g =>
      have hg : ρ g = ρ' g := h g (by simp [Op.operands, Call.operands, hc])
      simp only
      have e1 : c.args.toList.map (argV ta ρ) = c.args.toList.map (argV ta ρ') := List.map_congr_left fun x hx => by unfold argV; rw [hargs x hx]
      have e2 : (takenL ta c.args.toList).flatMap (takeE ρ) = (takenL ta c.args.toList).flatMap (takeE ρ') := flatMap_takeE_congr fun x hx => hargs x (by cases ta with | true => exact hx | false => simp [takenL] at hx)
      rw [hg, e1, e2]
      cases ρ' g <;> try rfl
      rename_i f caps
      simp only
      congr 2
      unfold callE
      cases pu
      · rw [hb (by simp [opBoxes, hc])]
      · rfl
  case load t x =>
    simp only [effO]
    rw [h x (by simp [Op.operands]), hb (by simp only [opBoxes]; split <;> simp)]
  case store t x y =>
    simp only [effO]
    rw [h x (by simp [Op.operands]), h y (by simp [Op.operands]), takeE_congr (h y (by simp [Op.operands])), hb (by simp [opBoxes])]
  case box t x =>
    simp only [effO]
    rw [h x (by simp [Op.operands]), takeE_congr (h x (by simp [Op.operands])), hb (by simp [opBoxes])]
  case alloc t => simp only [effO]; rw [hb (by simp [opBoxes])]
  case makeSlice t l c => simp only [effO]; rw [h l (by simp [Op.operands]), h c (by simp [Op.operands]), hb (by simp [opBoxes])]
  case move x => simp only [effO]; rw [h x (by simp [Op.operands]), takeE_congr (h x (by simp [Op.operands]))]
  case assign x => simp only [effO]; rw [h x (by simp [Op.operands]), takeE_congr (h x (by simp [Op.operands]))]
  case pick c a b => simp only [effO]; rw [h c (by simp [Op.operands]), h a (by simp [Op.operands]), h b (by simp [Op.operands])]
  all_goals first | (simp only [effO]; done) | (simp only [effO]; simp_all [Op.operands]; done)
theorem mem_takeE {ρ : Operand → (SV m)} {x : Operand} {p : Tmp × (SV m)} (h : p ∈ takeE ρ x) : p.1 ∈ operandTmps [x] := by
  cases x <;> simp_all [takeE, operandTmps]
theorem mem_takesE {ρ : Operand → (SV m)} {l : List Operand} {p : Tmp × (SV m)} (h : p ∈ l.flatMap (takeE ρ)) : p.1 ∈ operandTmps l := by
  obtain ⟨x, hx, hp⟩ := List.mem_flatMap.1 h
  have := mem_takeE hp
  simp only [operandTmps, List.mem_filterMap] at this ⊢
  obtain ⟨y, hy, e⟩ := this
  exact ⟨y, by simp at hy; subst hy; exact hx, e⟩
theorem mem_dstE {dst : Option Tmp} {v : (SV m)} {p : Tmp × (SV m)} (h : p ∈ dstE dst v) : p.1 ∈ dst.toList := by
  cases dst <;> simp_all [dstE]
theorem eff_writes {mv pu ta : Bool} {o : Oper} {ρ : Operand → (SV m)} {bs : (Boxes m)} {e : (Eff m)} (h : effO P D nt mv pu ta o ρ bs = some e) :
    (∀ p ∈ e.tmps, p.1 ∈ opWrites mv o) ∧ (opBoxes mv pu ta o ≠ 2 → e.boxes = none) := by
  obtain ⟨dst, op, type, pos, after, guard⟩ := o
  have val : ∀ {v : Option (SV m)}, (v.map fun v => (⟨dstE dst v, none⟩ : (Eff m))) = some e → (∀ p ∈ e.tmps, p.1 ∈ dst.toList) ∧ e.boxes = none := by
    intro v hv
    obtain ⟨u, _, rfl⟩ := Option.map_eq_some_iff.1 hv
    exact ⟨fun p hp => mem_dstE hp, rfl⟩
  have fin : ∀ {op : Op}, (∀ p ∈ e.tmps, p.1 ∈ dst.toList) ∧ e.boxes = none → (∀ p ∈ e.tmps, p.1 ∈ opWrites mv ⟨dst, op, type, pos, after, guard⟩) ∧ (opBoxes mv pu ta ⟨dst, op, type, pos, after, guard⟩ ≠ 2 → e.boxes = none) :=
    fun ⟨a, b⟩ => ⟨fun p hp => by simp only [opWrites, List.mem_append]; exact .inl (a p hp), fun _ => b⟩
  have mov : ∀ {x : Operand}, (if mv = true then some ⟨takeE ρ x ++ dstE dst (retype P type (ρ x)), none⟩ else some ⟨dstE dst (ρ x).drop, none⟩ : Option (Eff m)) = some e →
      (∀ p ∈ e.tmps, p.1 ∈ dst.toList ++ (if mv = true then operandTmps [x] else [])) ∧ e.boxes = none := by
    intro x hx
    split at hx
    · obtain rfl := Option.some.inj hx
      refine ⟨fun p hp => ?_, rfl⟩
      rename_i hm
      simp only [hm, if_true, List.mem_append]
      rcases List.mem_append.1 hp with h | h
      · exact .inr (mem_takeE h)
      · exact .inl (mem_dstE h)
    · obtain rfl := Option.some.inj hx
      exact ⟨fun p hp => List.mem_append.2 (.inl (mem_dstE hp)), rfl⟩
  cases op <;> simp only [effO] at h
  case move x => exact ⟨fun p hp => by simpa [opWrites, opTakes] using (mov h).1 p hp, fun _ => (mov h).2⟩
  case assign x => exact ⟨fun p hp => by simpa [opWrites, opTakes] using (mov h).1 p hp, fun _ => (mov h).2⟩
  case pick c a b =>
    refine fin ?_
    cases hc : ρ c <;> simp [hc, onBool] at h
    rename_i l
    cases l <;> simp at h
    rename_i b
    cases b <;> simp [branch] at h <;> subst h <;> exact ⟨fun p hp => mem_dstE hp, rfl⟩
  case box t x =>
    refine ⟨?_, fun hne => absurd rfl hne⟩
    cases dst with
    | none => simp at h
    | some d =>
      simp only at h
      split at h
      · cases hg : (decide (d < nt) && ((ρ x).data || isFn (ρ x))) <;> simp only [hg, guarded] at h <;> try (simp at h; done)
        obtain h := Option.some.inj h
        subst h
        intro p hp
        simp only [opWrites, opTakes, List.mem_append]
        rcases List.mem_append.1 hp with h | h
        · exact .inr (mem_takeE h)
        · exact .inl (by simp at h; subst h; simp)
      · simp at h
  case alloc t =>
    refine ⟨?_, fun hne => absurd rfl hne⟩
    cases dst with
    | none => simp at h
    | some d =>
      simp only at h
      split at h
      · cases hg : decide (d < nt) <;> simp only [hg, guarded] at h <;> try (simp at h; done)
        obtain ⟨z, _, rfl⟩ := Option.map_eq_some_iff.1 h
        intro p hp
        simp at hp
        subst hp
        simp [opWrites]
      · simp at h
  case makeSlice t l c =>
    refine ⟨?_, fun hne => absurd rfl hne⟩
    cases dst with
    | none => simp at h
    | some d =>
      simp only at h
      split at h
      · cases hg : decide (d < nt) <;> simp only [hg, guarded] at h <;> try (simp at h; done)
        obtain ⟨z, _, rfl⟩ := Option.map_eq_some_iff.1 h
        intro p hp
        simp at hp
        subst hp
        simp [opWrites]
      · simp at h
  case load t x =>
    refine ⟨?_, fun hne => ?_⟩ <;> cases hx : ρ x <;> simp only [hx] at h <;> try (simp at h; done)
    · obtain ⟨cs, _, h⟩ := Option.bind_eq_some_iff.1 h
      intro p hp
      simp only [opWrites, List.mem_append]
      refine .inl ?_
      split at h
      · obtain ⟨n, _, h⟩ := Option.bind_eq_some_iff.1 h
        split at h
        · obtain ⟨l, _, rfl⟩ := Option.map_eq_some_iff.1 h; exact mem_dstE hp
        · simp at h
      · obtain ⟨c, _, rfl⟩ := Option.map_eq_some_iff.1 h
        cases mv <;> exact mem_dstE hp
    · exact (fin (val h)).1
    · cases hg : (!isAggT P t) <;> simp only [hg, guarded] at h <;> try (simp at h; done)
      exact (fin (val h)).1
    · have hm : mv = false := by cases mv <;> simp [opBoxes] at hne ⊢
      obtain ⟨cs, _, h⟩ := Option.bind_eq_some_iff.1 h
      split at h
      · obtain ⟨n, _, h⟩ := Option.bind_eq_some_iff.1 h
        split at h
        · obtain ⟨l, _, rfl⟩ := Option.map_eq_some_iff.1 h; rfl
        · simp at h
      · obtain ⟨c, _, rfl⟩ := Option.map_eq_some_iff.1 h; simp [hm]
    · exact (fin (val h) (op := .load t x)).2 hne
    · cases hg : (!isAggT P t) <;> simp only [hg, guarded] at h <;> try (simp at h; done)
      exact (fin (val h) (op := .load t x)).2 hne
  case store t x y =>
    refine ⟨?_, fun hne => absurd rfl hne⟩
    cases hx : ρ x <;> simp only [hx] at h <;> try (simp at h; done)
    rotate_left
    · split at h
      · exact (fin (val h)).1
      · simp at h
    obtain ⟨cs, _, h⟩ := Option.bind_eq_some_iff.1 h
    obtain ⟨n, _, h⟩ := Option.bind_eq_some_iff.1 h
    cases hf : ((ρ y).data || isFn (ρ y)) <;> simp only [hf, guarded] at h <;> try (simp at h; done)
    split at h
    · obtain rfl := Option.some.inj h
      intro p hp
      simp only [opWrites, opTakes, List.mem_append]
      rcases List.mem_append.1 hp with h | h
      · exact .inr (mem_takeE h)
      · exact .inl (mem_dstE h)
    · simp at h
  case makeFunc fn first caps =>
    cases fn <;> simp only at h <;> try (simp at h; done)
    split at h
    · cases hg : (caps.toList.map ρ).all capOk <;> simp only [hg, guarded] at h <;> try (simp at h; done)
      exact fin (val h)
    · simp at h
  case slice t x lo hi mx =>
    cases mx <;> simp only at h
    · obtain ⟨l, _, h⟩ := Option.bind_eq_some_iff.1 h
      obtain ⟨u, _, h⟩ := Option.bind_eq_some_iff.1 h
      exact fin (val h)
    · obtain ⟨l, _, h⟩ := Option.bind_eq_some_iff.1 h
      obtain ⟨u, _, h⟩ := Option.bind_eq_some_iff.1 h
      obtain ⟨c, _, h⟩ := Option.bind_eq_some_iff.1 h
      exact fin (val h)
  case nilCheck x => cases hx : ρ x <;> simp only [hx] at h <;> first | exact fin (val h) | (simp at h; done)
  case field t x f =>
    cases hx : ρ x <;> simp only [hx] at h <;> try (simp at h; done)
    obtain ⟨p, _, h⟩ := Option.bind_eq_some_iff.1 h
    exact fin (val h)
  case extract x i =>
    cases hx : ρ x <;> simp only [hx] at h <;> try (simp at h; done)
    obtain ⟨p, _, h⟩ := Option.bind_eq_some_iff.1 h
    exact fin (val h)
  case call c =>
    cases hc : c.callee with
    | invoke _ _ => simp [hc] at h
    | builtin b =>
      simp only [hc] at h
      have ha : ∀ x y, b = .append → c.args.toList = [x, y] → e.boxes = none → (∀ p ∈ e.tmps, p ∈ takeE ρ x ∨ p.1 ∈ dst.toList) → (∀ p ∈ e.tmps, p.1 ∈ opWrites mv ⟨dst, .call c, type, pos, after, guard⟩) ∧ (opBoxes mv pu ta ⟨dst, .call c, type, pos, after, guard⟩ ≠ 2 → e.boxes = none) := by
        intro x y hb hl he hp
        refine ⟨fun p hpe => ?_, fun _ => he⟩
        subst hb
        simp only [opWrites, opTakes, hc, hl, List.mem_append, List.take_succ_cons, List.take_zero]
        exact (hp p hpe).elim (fun h => .inr (mem_takeE h)) .inl
      generalize hl : c.args.toList = l at h ha
      cases b <;> (try (simp at h; done)) <;> (rcases l with _ | ⟨x, _ | ⟨y, _ | ⟨z, r⟩⟩⟩ <;> (try (simp at h; done)))
      · obtain ⟨v, _, rfl⟩ := Option.map_eq_some_iff.1 h
        exact ha x y rfl rfl rfl fun p hp => (List.mem_append.1 hp).imp id mem_dstE
      · refine ⟨?_, fun hne => absurd (by simp [opBoxes, hc]) hne⟩
        cases hx : ρ x <;> simp only [hx] at h <;> try (simp at h; done)
        obtain ⟨cs, _, h⟩ := Option.bind_eq_some_iff.1 h
        obtain ⟨cs', _, rfl⟩ := Option.map_eq_some_iff.1 h
        intro p hp
        simp only [opWrites, List.mem_append]
        exact .inl (mem_dstE hp)
      · exact fin (val h)
      · exact fin (val h)
      · exact fin (val h)
    | value g =>
      simp only [hc] at h
      cases hg : ρ g <;> simp only [hg] at h <;> try (simp at h; done)
      rename_i f caps
      cases hn : decide (operandTmps c.args.toList).Nodup <;> simp only [hn, guarded] at h <;> try (simp at h; done)
      obtain ⟨r, hr, rfl⟩ := Option.map_eq_some_iff.1 h
      refine ⟨fun p hp => ?_, fun hne => ?_⟩
      · simp only [opWrites, opTakes, hc, List.mem_append]
        refine (List.mem_append.1 hp).elim (fun h => .inr ?_) (fun h => .inl (mem_dstE h))
        cases ta with
        | true => exact mem_takesE h
        | false => simp [takenL] at h
      · cases pu
        · simp [opBoxes, hc] at hne
        · simp only [callE, if_true] at hr
          cases ha : (c.args.toList.map (argV ta ρ) ++ caps).all SV.handed <;> simp only [ha, guarded] at hr <;> try (simp at hr; done)
          split at hr
          · obtain ⟨q, _, rfl⟩ := Option.map_eq_some_iff.1 hr; rfl
          · simp at hr
  all_goals first
    | (simp at h; done)
    | exact fin (val h)
theorem getD_setAll (l : List (SV m)) (us : List (Tmp × (SV m))) (t : Nat) (d : (SV m)) (h : t ∉ us.map (·.1)) : (setAll l us).getD t d = l.getD t d := by
  induction us generalizing l with
  | nil => rfl
  | cons u us ih =>
    simp only [List.map_cons, List.mem_cons, not_or] at h
    simp only [setAll, List.foldl_cons]
    rw [show List.foldl (fun l (p : Tmp × (SV m)) => l.set p.1 p.2) (l.set u.1 u.2) us = setAll (l.set u.1 u.2) us from rfl, ih _ h.2]
    simp [List.getD_eq_getElem?_getD, List.getElem?_set_ne (Ne.symm h.1)]
theorem setAll_set (l : List (SV m)) (us : List (Tmp × (SV m))) (t : Nat) (v : (SV m)) (h : t ∉ us.map (·.1)) : setAll (l.set t v) us = (setAll l us).set t v := by
  induction us generalizing l with
  | nil => rfl
  | cons u us ih =>
    simp only [List.map_cons, List.mem_cons, not_or] at h
    simp only [setAll, List.foldl_cons]
    rw [List.set_comm _ _ h.1]
    exact ih _ h.2
theorem setAll_comm (l : List (SV m)) (us vs : List (Tmp × (SV m))) (h : ∀ p ∈ us, p.1 ∉ vs.map (·.1)) : setAll (setAll l us) vs = setAll (setAll l vs) us := by
  induction us generalizing l with
  | nil => rfl
  | cons u us ih =>
    have h1 := h u (by simp)
    have e1 : setAll l (u :: us) = setAll (l.set u.1 u.2) us := rfl
    have e2 : setAll (setAll l vs) (u :: us) = setAll ((setAll l vs).set u.1 u.2) us := rfl
    rw [e1, e2, ih _ fun p hp => h p (by simp [hp]), setAll_set _ _ _ _ h1]
theorem stepE_congr {mv pu ta : Bool} {o : Oper} {s s' : (St m)} (h : ∀ t ∈ o.looksAt ops, s.tmps.getD t .any = s'.tmps.getD t .any) (hb : opBoxes mv pu ta o ≠ 0 → s.boxes = s'.boxes) :
    stepE P D nt mv pu ta ops o s = stepE P D nt mv pu ta ops o s' := by
  have he : effO P D nt mv pu ta o s.eval s.boxes = effO P D nt mv pu ta o s'.eval s'.boxes := effO_congr (fun x hx => by
    cases x with
    | tmp t => exact h t (by simp only [Oper.looksAt, List.mem_append, List.mem_filterMap]; exact .inl ⟨.tmp t, by simpa using hx, rfl⟩)
    | _ => rfl) hb
  unfold stepE
  rw [he]
  cases hg : o.guard with
  | none => rfl
  | some g =>
    obtain ⟨j, want⟩ := g
    simp only
    cases hj : (ops[j]?).bind (·.dst) with
    | none => rfl
    | some t =>
      have : s.tmps.getD t .any = s'.tmps.getD t .any := h t (by simp [Oper.looksAt, hg, hj])
      simp only [this]
theorem stepE_writes {mv pu ta : Bool} {o : Oper} {s : (St m)} {e : (Eff m)} (h : stepE P D nt mv pu ta ops o s = some e) :
    (∀ p ∈ e.tmps, p.1 ∈ opWrites mv o) ∧ (opBoxes mv pu ta o ≠ 2 → e.boxes = none) := by
  unfold stepE at h
  cases hg : o.guard with
  | none => simp only [hg] at h; exact eff_writes h
  | some g =>
    obtain ⟨j, want⟩ := g
    simp only [hg] at h
    cases hj : (ops[j]?).bind (·.dst) with
    | none => simp [hj] at h
    | some t =>
      have skip : (some ⟨dstE o.dst .skip, none⟩ : Option (Eff m)) = some e → (∀ p ∈ e.tmps, p.1 ∈ opWrites mv o) ∧ (opBoxes mv pu ta o ≠ 2 → e.boxes = none) := by
        rintro h
        obtain rfl := Option.some.inj h
        exact ⟨fun p hp => by simp only [opWrites, List.mem_append]; exact .inl (mem_dstE hp), fun _ => rfl⟩
      simp only [hj, onGuard] at h
      split at h
      · rename_i b _
        simp only [branch] at h
        split at h
        · exact eff_writes h
        · exact skip h
      · exact skip h
      · simp at h
theorem boxAt_set_other {bs : Boxes m} {b d : Nat} {c : Option (List (SV m))} (h : b ≠ d) : boxAt (bs.set d c) b = boxAt bs b := by
  unfold boxAt
  rw [List.getD_eq_getElem?_getD, List.getD_eq_getElem?_getD, List.getElem?_set_ne (Ne.symm h)]
theorem fresh_boxes {mv pu ta : Bool} {o : Oper} {s : (St m)} {e : (Eff m)} (hf : opFresh o = true) (h : stepE P D nt mv pu ta ops o s = some e) :
    e.boxes = none ∨ ∃ d c, boxAt s.boxes d = none ∧ e.boxes = some (s.boxes.set d (some c)) := by
  have eff : effO P D nt mv pu ta o s.eval s.boxes = some e → e.boxes = none ∨ ∃ d c, boxAt s.boxes d = none ∧ e.boxes = some (s.boxes.set d (some c)) := fun h => by
    obtain ⟨dst, op, type, pos, after, guard⟩ := o
    unfold opFresh at hf
    cases op <;> simp only at hf <;> try (simp at hf; done)
    all_goals
      simp only [effO] at h
      cases dst with
      | none => simp at h
      | some d =>
        simp only at h
        split at h
        · rename_i hb
          refine .inr ⟨d, ?_⟩
          first
          | (cases hg : (decide (d < nt) && ((s.eval ‹Operand›).data || isFn (s.eval ‹Operand›))) <;> simp only [hg, guarded] at h <;> try (simp at h; done)
             obtain rfl := Option.some.inj h
             exact ⟨_, hb, rfl⟩)
          | (cases hg : decide (d < nt) <;> simp only [hg, guarded] at h <;> try (simp at h; done)
             obtain ⟨z, _, rfl⟩ := Option.map_eq_some_iff.1 h
             exact ⟨_, hb, rfl⟩)
        · simp at h
  unfold stepE at h
  cases hg : o.guard with
  | none => simp only [hg] at h; exact eff h
  | some g =>
    obtain ⟨j, want⟩ := g
    simp only [hg] at h
    cases hj : (ops[j]?).bind (·.dst) with
    | none => simp [hj] at h
    | some t =>
      simp only [hj, onGuard] at h
      split at h
      · simp only [branch] at h
        split at h
        · exact eff h
        · obtain rfl := Option.some.inj h; exact .inl rfl
      · obtain rfl := Option.some.inj h; exact .inl rfl
      · simp at h
theorem read_moreE {mv pu ta : Bool} {o : Oper} {ρ : Operand → SV m} {bs : Boxes m} {e : (Eff m)} {d : Nat} {c : Option (List (SV m))} (hr : opBoxes mv pu ta o = 1) (hd : boxAt bs d = none)
    (h : effO P D nt mv pu ta o ρ bs = some e) : effO P D nt mv pu ta o ρ (bs.set d c) = some e := by
  obtain ⟨dst, op, type, pos, after, guard⟩ := o
  cases op <;> simp only [opBoxes] at hr <;> try (simp at hr; done)
  case load t x =>
    simp only [effO] at h ⊢
    cases hx : ρ x <;> simp only [hx] at h ⊢ <;> try (simp at h; done)
    · rename_i b p
      have hne : b ≠ d := fun he => by subst he; rw [hd] at h; simp at h
      have hm : mv = false := by cases mv <;> simp at hr ⊢
      subst hm
      rw [boxAt_set_other hne]
      simpa using h
    · exact h
    · exact h
  case call cc =>
    exfalso
    revert hr
    split <;> (try split) <;> simp
theorem read_more {mv pu ta : Bool} {o : Oper} {s : (St m)} {e : (Eff m)} {d : Nat} {c : Option (List (SV m))} (hr : opBoxes mv pu ta o = 1) (hd : boxAt s.boxes d = none)
    (h : stepE P D nt mv pu ta ops o s = some e) : stepE P D nt mv pu ta ops o { s with boxes := s.boxes.set d c } = some e := by
  have eff : effO P D nt mv pu ta o s.eval s.boxes = some e → effO P D nt mv pu ta o s.eval (s.boxes.set d c) = some e := read_moreE hr hd
  unfold stepE at h ⊢
  cases hg : o.guard with
  | none => simp only [hg] at h ⊢; exact eff h
  | some g =>
    obtain ⟨j, want⟩ := g
    simp only [hg] at h ⊢
    cases hj : (ops[j]?).bind (·.dst) with
    | none => simp [hj] at h
    | some t =>
      simp only [hj, onGuard] at h ⊢
      split at h
      · rename_i b hb
        simp only [branch] at h ⊢
        split at h
        · exact eff h
        · exact h
      · exact h
      · simp at h
theorem step_comm {i j : Nat} {oi oj : Oper} {s : (St m)} {ei ej : (Eff m)} (hap : apartV mv pu ta ops i j oi oj = true)
    (hi : stepE P D nt (mv i) (pu i) (ta i) ops oi s = some ei) (hj : stepE P D nt (mv j) (pu j) (ta j) ops oj (ei.app s) = some ej) :
    stepE P D nt (mv j) (pu j) (ta j) ops oj s = some ej ∧ stepE P D nt (mv i) (pu i) (ta i) ops oi (ej.app s) = some ei ∧ ej.app (ei.app s) = ei.app (ej.app s) := by
  simp only [apartV, Bool.and_eq_true, List.all_eq_true, Bool.not_eq_true', List.contains_eq_mem, decide_eq_false_iff_not, Bool.or_eq_true, beq_iff_eq] at hap
  obtain ⟨⟨h1, h2⟩, h3⟩ := hap
  obtain ⟨wi, bi⟩ := stepE_writes hi
  obtain ⟨wj, bj⟩ := stepE_writes hj
  have hbi : opBoxes (mv j) (pu j) (ta j) oj ≠ 0 → ei.boxes = none := fun h => bi (by omega)
  have nin : ∀ t, t ∈ oj.looksAt ops → t ∉ ei.tmps.map (·.1) := fun t ht hm => by
    obtain ⟨p, hp, rfl⟩ := List.mem_map.1 hm
    exact (h1 p.1 (wi p hp)).1 ht
  have nin' : ∀ t, t ∈ oi.looksAt ops → t ∉ ej.tmps.map (·.1) := fun t ht hm => by
    obtain ⟨p, hp, rfl⟩ := List.mem_map.1 hm
    exact h2 p.1 (wj p hp) ht
  have first : stepE P D nt (mv j) (pu j) (ta j) ops oj s = some ej := by
    rw [← hj]
    exact stepE_congr (fun t ht => (getD_setAll _ _ _ _ (nin t ht)).symm) (fun h => by simp [Eff.app, hbi h])
  refine ⟨first, ?_, ?_⟩
  · rcases h3 with h3 | ⟨h31, h3⟩
    · have hbj : opBoxes (mv i) (pu i) (ta i) oi ≠ 0 → ej.boxes = none := fun h => bj (by omega)
      rw [← hi]
      exact stepE_congr (fun t ht => getD_setAll _ _ _ _ (nin' t ht)) (fun h => by simp [Eff.app, hbj h])
    · have grow : stepE P D nt (mv i) (pu i) (ta i) ops oi { s with boxes := ej.boxes.getD s.boxes } = some ei := by
        rcases h3 with h3 | h3
        · rw [bj (by omega)]; exact hi
        · rcases fresh_boxes h3 first with hb | ⟨d, c, hd, hb⟩
          · rw [hb]; exact hi
          · rw [hb]; exact read_more h31 hd hi
      rw [← grow]
      exact stepE_congr (fun t ht => getD_setAll _ _ _ _ (nin' t ht)) (fun h => by simp [Eff.app])
  · have hc : setAll (setAll s.tmps ei.tmps) ej.tmps = setAll (setAll s.tmps ej.tmps) ei.tmps := setAll_comm _ _ _ fun p hp hm => by
      obtain ⟨q, hq, e⟩ := List.mem_map.1 hm
      exact (h1 p.1 (wi p hp)).2 (e ▸ wj q hq)
    have hb : ei.boxes = none ∨ ej.boxes = none := by
      rcases Nat.eq_zero_or_pos (opBoxes (mv j) (pu j) (ta j) oj) with h | h
      · exact .inr (bj (by omega))
      · exact .inl (hbi (by omega))
    rcases hb with hb | hb <;> simp [Eff.app, hc, hb]
def anyA (P : Program) (D : (Oracle m)) (nt : Nat) (mv pu ta : Nat → Bool) (ops : Array Oper) (Q : (St m) → Prop) : Nat → Array Bool → (St m) → Prop
  | 0, listed, s => Region.ready .any ops listed = [] ∧ Q s
  | fuel + 1, listed, s => (Region.ready .any ops listed = [] → Q s) ∧
    ∀ i ∈ Region.ready .any ops listed, ∃ o e, ops[i]? = some o ∧ stepE P D nt (mv i) (pu i) (ta i) ops o s = some e ∧ anyA P D nt mv pu ta ops Q fuel (listed.setIfInBounds i true) (e.app s)
theorem getD_tf {listed : Array Bool} {x : Nat} (h : listed.getD x false = true) : listed.getD x true = true := by
  rcases Nat.lt_or_ge x listed.size with h' | h'
  · simp only [Array.getD, h', dite_true] at h ⊢; exact h
  · simp [Array.getD, Nat.not_lt.2 h']
def Shut (ops : Array Oper) (listed : Array Bool) : Prop :=
  ∀ (j : Nat) (o : Oper), ops[j]? = some o → listed.getD j true = true → ∀ e ∈ o.after, Region.binds .any e = true → listed.getD e.on false = true
theorem Shut.waits {listed : Array Bool} (h : Shut ops listed) : ∀ (n j k : Nat), listed.getD j true = true → Vs.waits ops n j k = true → listed.getD k false = true
  | 0, _, _, _, hw => by simp [Vs.waits] at hw
  | n + 1, j, k, hj, hw => by
    simp only [Vs.waits] at hw
    cases ho : ops[j]? with
    | none => simp [ho] at hw
    | some o =>
      simp only [ho, Array.any_eq_true, Bool.and_eq_true, Bool.or_eq_true, beq_iff_eq] at hw
      obtain ⟨i, hi, hb, he⟩ := hw
      have h1 := h j o ho hj _ (Array.getElem_mem hi) hb
      rcases he with he | he
      · rw [← he]; exact h1
      · exact h.waits n _ k (getD_tf h1) he
theorem Shut.put {listed : Array Bool} (h : Shut ops listed) {i : Nat} (hi : i ∈ Region.ready .any ops listed) : Shut ops (listed.setIfInBounds i true) := by
  obtain ⟨h0, o', ho', hall⟩ := mem_ready.1 hi
  have up : ∀ x : Nat, listed.getD x false = true → (listed.setIfInBounds i true).getD x false = true := fun x hx => by
    by_cases hxi : x = i
    · subst hxi
      rcases Nat.lt_or_ge x listed.size with h' | h'
      · simp [Array.getD, h']
      · simp [Array.getD, Nat.not_lt.2 h'] at hx
    · rwa [getD_set_ne false (Ne.symm hxi)]
  intro j o ho hj e he hb
  by_cases hji : j = i
  · subst hji
    rw [ho] at ho'
    obtain rfl := Option.some.inj ho'
    exact up _ (hall e he hb)
  · rw [getD_set_ne true (Ne.symm hji)] at hj
    exact up _ (h j o ho hj e he hb)
theorem any_first {Q : (St m) → Prop} {i : Nat} {oi : Oper} {ei : (Eff m)} (hi : ops[i]? = some oi) :
    ∀ (fuel : Nat) (listed : Array Bool) (s : (St m)), Shut ops listed →
      (∀ j oj, ops[j]? = some oj → j ≠ i → listed.getD j true = false → (∀ e ∈ oj.after, Region.binds .any e = true → e.on ≠ i) → waits ops 8 j i = false → apartV mv pu ta ops i j oi oj = true) →
      i ∈ Region.ready .any ops listed → stepE P D nt (mv i) (pu i) (ta i) ops oi s = some ei →
      anyA P D nt mv pu ta ops Q fuel (listed.setIfInBounds i true) (ei.app s) → anyA P D nt mv pu ta ops Q (fuel + 1) listed s := by
  intro fuel
  induction fuel with
  | zero =>
    intro listed s _ _ hr hy H
    refine ⟨fun h => (by rw [h] at hr; cases hr), fun j hj => ?_⟩
    by_cases hji : j = i
    · subst hji; exact ⟨oi, ei, hi, hy, H⟩
    · have := ready_mono hj hji
      rw [H.1] at this
      cases this
  | succ fuel ih =>
    intro listed s hshut hfree hr hy H
    refine ⟨fun h => (by rw [h] at hr; cases hr), fun j hj => ?_⟩
    by_cases hji : j = i
    · subst hji; exact ⟨oi, ei, hi, hy, H⟩
    · obtain ⟨oj, ej, hoj, hsj, hrest⟩ := H.2 j (ready_mono hj hji)
      obtain ⟨hjun, oj', hoj', hall⟩ := mem_ready.1 hj
      obtain rfl : oj' = oj := by rw [hoj] at hoj'; exact (Option.some.inj hoj').symm
      have hnot : ∀ e ∈ oj'.after, Region.binds .any e = true → e.on ≠ i := fun e he hb heq => by
        have h1 := hall e he hb
        have h0 := (mem_ready.1 hr).1
        rw [heq] at h1
        rcases Nat.lt_or_ge i listed.size with h' | h'
        · simp [h'] at h0 h1; rw [h0] at h1; cases h1
        · simp [Array.getElem?_eq_none h'] at h1
      have hnw : waits ops 8 j i = false := by
        cases hw : waits ops 8 j i with
        | false => rfl
        | true =>
          have h0 := (mem_ready.1 hr).1
          simp only [waits, hoj, Array.any_eq_true, Bool.and_eq_true, Bool.or_eq_true, beq_iff_eq] at hw
          obtain ⟨n, hn, hb, he⟩ := hw
          have h1 := hall _ (Array.getElem_mem hn) hb
          rcases he with he | he
          · exact absurd he (hnot _ (Array.getElem_mem hn) hb)
          · have h2 := hshut.waits 7 oj'.after[n].on i (getD_tf h1) (by simpa only [waits, Bool.and_eq_true, Bool.or_eq_true, beq_iff_eq] using he)
            rw [getD_tf h2] at h0
            cases h0
      obtain ⟨c1, c2, c3⟩ := step_comm (hfree j oj' hoj hji hjun hnot hnw) hy hsj
      refine ⟨oj', ej, hoj, c1, ih (listed.setIfInBounds j true) (ej.app s) (hshut.put hj) ?_ (ready_mono hr (Ne.symm hji)) c2 ?_⟩
      · intro k ok hk hki hun hno
        refine hfree k ok hk hki ?_ hno
        by_cases hjk : j = k
        · subst hjk; exact hjun
        · rw [getD_set_ne true hjk] at hun; exact hun
      · rw [Array.setIfInBounds_comm _ _ hji, ← c3]
        exact hrest
theorem any_lex : ∀ (l : List Oper) (k : Nat) (listed : Array Bool) (s s' : (St m)), Shut ops listed → (∀ j, l[j]? = ops[k + j]?) →
    okFrom mv pu ta ops l.length k listed = true → stepsK P D nt mv pu ta ops l k s some = some s' → anyA P D nt mv pu ta ops (· = s') l.length listed s
  | [], _, _, s, s', _, _, hB, h => by
    simp only [stepsK, Option.some.injEq] at h
    exact ⟨by simpa [okFrom] using hB, h⟩
  | o :: l, k, listed, s, s', hsh, hl, hB, h => by
    have h0 : ops[k]? = some o := by simpa using (hl 0).symm
    simp only [List.length_cons, okFrom, Bool.and_eq_true] at hB
    obtain ⟨⟨hr, hf⟩, hB'⟩ := hB
    simp only [stepsK, stepK_eff] at h
    obtain ⟨e, he, hrest⟩ := Option.bind_eq_some_iff.1 h
    refine any_first h0 l.length listed s hsh ?_ (by simpa using hr) he (any_lex l (k + 1) _ _ _ (hsh.put (by simpa using hr)) (fun j => by have := hl (j + 1); simpa [Nat.add_assoc, Nat.add_comm 1 j] using this) hB' hrest)
    intro j oj hoj hjk hun hno hnw
    have hj : j < ops.size := (Array.getElem?_eq_some_iff.1 hoj).1
    have := List.all_eq_true.1 hf j (List.mem_range.2 hj)
    simp only [Bool.or_eq_true, beq_iff_eq, hjk, hun, Bool.false_eq_true, false_or, h0, hoj, Array.any_eq_true, Bool.and_eq_true, hnw, or_false] at this
    rcases this with ⟨n, hn, hb, hon⟩ | h
    · exact absurd hon (hno _ (Array.getElem_mem hn) hb)
    · exact h
theorem any_region {s s' : (St m)} (hB : okRegion mv pu ta ops = true) (h : stepsK P D nt mv pu ta ops ops.toList 0 s some = some s') :
    anyA P D nt mv pu ta ops (· = s') ops.size (Array.replicate ops.size false) s := by
  have := any_lex (P := P) (D := D) (nt := nt) (mv := mv) (pu := pu) ops.toList 0 (Array.replicate ops.size false) s s' (fun j o ho hj => by
    have hlt := (Array.getElem?_eq_some_iff.1 ho).1
    simp [Array.getD, hlt] at hj) (by simp) (by simpa [okRegion] using hB) h
  simpa using this
end
end Go.Vs
end
section
namespace Go.Vs
variable {m : Bool}
structure Env where
  n : Nat
  Z : Nat → Bool
  lt : ∀ g, Z g = true → g < n
  T : Nat → Nat → Bool := fun _ _ => false
  K : List ((Nat × Nat) × Value) := []
  B : List (Nat × Nat) := []
variable {N : Env}
def plainV : Value → Bool | .bool _ | .int _ _ | .string _ => true | _ => false
def Leaf.soft : (Leaf m) → Bool | .unk | .sl _ _ => true | _ => false
abbrev Fr := Nat → Nat
inductive Loc where
  | tmp (t : Nat) | box (b j : Nat) | blk (b : Nat)
  deriving DecidableEq
abbrev Own := Nat → Option Loc
def BSz (w : World) (g n : Nat) : Prop := ∃ cur e z, w.heap[g]? = some (Obj.cells cur e z) ∧ cur.size = n
def Thawed (w : World) (g : Nat) : Prop := ∃ cur e, w.heap[g]? = some (Obj.cells cur e (0, 0))
def Fl.Holds {m : Bool} (c : Fl m) (N : Env) (w : World) (g o : Nat) : Prop := match m, c with
  | true, Flag.new => N.n ≤ g ∧ o = 0 ∧ Thawed w g
  | true, Flag.tag k f => N.T k g = true ∧ (f = true → o = 0 ∧ Thawed w g)
  | _, _ => True
theorem Fl.Holds.to {c : Fl m} {w w' : World} {g o : Nat} (h : c.Holds N w g o) (ht : Thawed w g → Thawed w' g) : c.Holds N w' g o := by
  cases m with
  | false => cases c; trivial
  | true => cases c <;> first | exact ⟨h.1, h.2.1, ht h.2.2⟩ | exact ⟨h.1, fun f => ⟨(h.2 f).1, ht (h.2 f).2⟩⟩ | trivial
theorem Fl.Holds.kept {w : World} {g o : Nat} : (Fl.kept m).Holds N w g o := by cases m <;> trivial
theorem Fl.Holds.mk_new {w : World} {g : Nat} (h : N.n ≤ g) (ht : Thawed w g) : (Fl.new m).Holds N w g 0 := by
  cases m
  · trivial
  · exact ⟨h, rfl, ht⟩
theorem Fl.Holds.later {c : Fl m} {w : World} {g o z : Nat} {lo : Option Nat} (h : c.Holds N w g o) : (c.later lo).Holds N w g (o + lo.getD 0 * z) := by
  cases lo with
  | none => simpa [Fl.later] using h
  | some k => cases m with
    | false => trivial
    | true => cases c <;> first | exact ⟨h.1, fun f => by cases f⟩ | trivial
def Fl.At {m : Bool} (c : Fl m) (N : Env) (g : Nat) : Prop := match m, c with
  | true, Flag.soft => N.Z g = true
  | true, Flag.tag k _ => N.T k g = true
  | true, Flag.new => N.n ≤ g
  | _, _ => True
theorem Fl.At.of {c : Fl m} {w : World} {g o : Nat} (h : c.Holds N w g o) (hs : c.isSoft = true → N.Z g = true) : c.At N g := by
  cases m with
  | false => trivial
  | true => cases c <;> first | exact h.1 | exact hs rfl | trivial
theorem Fl.At.z {c : Fl m} {g : Nat} (h : c.At N g) (hs : c.isSoft = true) : N.Z g = true := by
  cases m with
  | false => cases c; simp [Fl.isSoft] at hs
  | true => cases c <;> first | exact h | simp [Fl.isSoft] at hs
inductive RepL (w : World) (F : Fr) (N : Env) : (Leaf m) → Value → Prop
  | bool (b : Bool) : RepL w F N (.bool b) (.bool b)
  | int (k : IntKind) (n : Int) : RepL w F N (.int k n) (.int k n)
  | str (s : ByteArray) : RepL w F N (.str s) (.string s)
  | unk (v : Value) (h : plainV v = true) : RepL w F N .unk v
  | nl (e : Option TypeId) : RepL w F N (.nl e) (.slice none 0 0)
  | sl (c : Fl m) (es : List (List (Leaf m))) (A : Option Addr) (cap z : Nat) (vals : List Value) (hc : es.length ≤ cap) (hz : ∀ e ∈ es, e.length = z) (hv : vals.length = es.length * z)
      (hcell : 0 < es.length → ∃ g o, A = some ⟨g, o, none⟩ ∧ (0 < vals.length ∧ c.Holds N w g o) ∧ o + vals.length ≤ F g ∧ ((c.isSoft = true → N.Z g = true) ∧ (N.Z g = true → ∀ l ∈ es.flatten, l.soft = true)) ∧ ∀ (j : Nat) (v : Value), vals[j]? = some v → w.cell? ⟨g, o + j, none⟩ = some v)
      (hrep : ∀ (j : Nat) (l : (Leaf m)) (v : Value), es.flatten[j]? = some l → vals[j]? = some v → RepL w F N l v) : RepL w F N (.sl c es) (.slice A es.length cap)
structure Keeps (N : Env) (w : World) (F : Fr) (w' : World) (F' : Fr) : Prop where
  hard : ∀ g j, j < F g → N.Z g = false → w'.cell? ⟨g, j, none⟩ = w.cell? ⟨g, j, none⟩
  soft : ∀ g j v, j < F g → w.cell? ⟨g, j, none⟩ = some v → ∃ v', w'.cell? ⟨g, j, none⟩ = some v' ∧ (v' = v ∨ (plainV v = true ∧ plainV v' = true))
  le : ∀ g, F g ≤ F' g
  fz : ∀ g, Thawed w g → Thawed w' g
  sz : ∀ g n, BSz w g n → BSz w' g n
theorem Keeps.mk' {w : World} {F : Fr} {w' : World} {F' : Fr} (h : ∀ g j, j < F g → w'.cell? ⟨g, j, none⟩ = w.cell? ⟨g, j, none⟩) (le : ∀ g, F g ≤ F' g) (fz : ∀ g, Thawed w g → Thawed w' g) (sz : ∀ g n, BSz w g n → BSz w' g n) : Keeps N w F w' F' :=
  ⟨fun g j hj _ => h g j hj, fun g j v hj hv => ⟨v, (h g j hj).trans hv, .inl rfl⟩, le, fz, sz⟩
theorem Thawed.but {w w' : World} (g : Nat) (h : ∀ k : Nat, k < w.heap.size → k ≠ g → w'.heap[k]? = w.heap[k]?) (hg : g < w.heap.size → Thawed w' g) : ∀ k, Thawed w k → Thawed w' k := fun k hk => by
  obtain ⟨cur, e, hc⟩ := hk
  have hks : k < w.heap.size := (Array.getElem?_eq_some_iff.1 hc).1
  by_cases hkg : k = g
  · subst hkg; exact hg hks
  · exact ⟨cur, e, by rw [h k hks hkg]; exact hc⟩
theorem BSz.but {w w' : World} (g : Nat) (h : ∀ k : Nat, k < w.heap.size → k ≠ g → w'.heap[k]? = w.heap[k]?) (hg : ∀ n, BSz w g n → BSz w' g n) : ∀ k n, BSz w k n → BSz w' k n := fun k n hk => by
  by_cases hkg : k = g
  · subst hkg; exact hg n hk
  · obtain ⟨cur, e, z, hc, hn⟩ := hk
    exact ⟨cur, e, z, by rw [h k (Array.getElem?_eq_some_iff.1 hc).1 hkg]; exact hc, hn⟩
theorem Keeps.refl (w : World) (F : Fr) : Keeps N w F w F := .mk' (fun _ _ _ => rfl) (fun _ => Nat.le_refl _) (fun _ h => h) fun _ _ h => h
theorem Keeps.trans {w w1 w2 : World} {F F1 F2 : Fr} (h : Keeps N w F w1 F1) (k : Keeps N w1 F1 w2 F2) : Keeps N w F w2 F2 :=
  ⟨fun g j hj hz => (k.hard g j (Nat.lt_of_lt_of_le hj (h.le g)) hz).trans (h.hard g j hj hz), fun g j v hj hv => by
    obtain ⟨v1, h1, h2⟩ := h.soft g j v hj hv
    obtain ⟨v2, k1, k2⟩ := k.soft g j v1 (Nat.lt_of_lt_of_le hj (h.le g)) h1
    refine ⟨v2, k1, ?_⟩
    rcases h2 with rfl | ⟨a, b⟩ <;> rcases k2 with rfl | ⟨c, d⟩
    · exact .inl rfl
    · exact .inr ⟨c, d⟩
    · exact .inr ⟨a, b⟩
    · exact .inr ⟨a, d⟩, fun g => Nat.le_trans (h.le g) (k.le g), fun g hg => k.fz g (h.fz g hg), fun g n hg => k.sz g n (h.sz g n hg)⟩
theorem RepL.not_plain {w : World} {F : Fr} {c : Fl m} {es : List (List (Leaf m))} {v : Value} (h : RepL w F N (.sl c es) v) : plainV v = false := by cases h; rfl
theorem row_keeps {w w' : World} {F F' : Fr} (k : Keeps N w F w' F') {ls : List (Leaf m)} {vals : List Value} {g o : Nat} (hl : vals.length = ls.length) (hle : o + vals.length ≤ F g) (hs : N.Z g = true → ∀ l ∈ ls, l.soft = true)
    (hc : ∀ (j : Nat) (v : Value), vals[j]? = some v → w.cell? ⟨g, o + j, none⟩ = some v) (hr : ∀ (j : Nat) (l : (Leaf m)) (v : Value), ls[j]? = some l → vals[j]? = some v → RepL w F N l v ∧ RepL w' F' N l v) :
    ∃ vals' : List Value, vals'.length = vals.length ∧ (∀ (j : Nat) (v : Value), vals'[j]? = some v → w'.cell? ⟨g, o + j, none⟩ = some v) ∧ (∀ (j : Nat) (l : (Leaf m)) (v : Value), ls[j]? = some l → vals'[j]? = some v → RepL w' F' N l v) := by
  cases hZ : N.Z g with
  | false => exact ⟨vals, rfl, fun j v hj => by
      have hj' := (List.getElem?_eq_some_iff.1 hj).1
      rw [k.hard g (o + j) (by omega) hZ]
      exact hc j v hj, fun j l v a b => (hr j l v a b).2⟩
  | true =>
    have key : ∀ (j : Nat) (v : Value), vals[j]? = some v → ∃ v', w'.cell? ⟨g, o + j, none⟩ = some v' ∧ (v' = v ∨ (plainV v = true ∧ plainV v' = true)) := fun j v hj => by
      have hj' := (List.getElem?_eq_some_iff.1 hj).1
      exact k.soft g (o + j) v (by omega) (hc j v hj)
    refine ⟨(List.range vals.length).map fun j => (w'.cell? ⟨g, o + j, none⟩).getD undef, by simp, fun j v hj => ?_, fun j l v hl' hj => ?_⟩
    · have hj' : j < vals.length := by have := (List.getElem?_eq_some_iff.1 hj).1; simpa using this
      obtain ⟨v', h1, _⟩ := key j _ (List.getElem?_eq_getElem hj')
      simp only [List.getElem?_map, List.getElem?_range hj', Option.map_some, h1, Option.getD_some, Option.some.injEq] at hj
      rw [h1, hj]
    · have hj' : j < vals.length := by have := (List.getElem?_eq_some_iff.1 hj).1; simpa using this
      obtain ⟨v', h1, h2⟩ := key j _ (List.getElem?_eq_getElem hj')
      simp only [List.getElem?_map, List.getElem?_range hj', Option.map_some, h1, Option.getD_some, Option.some.injEq] at hj
      subst hj
      obtain ⟨h00, h0⟩ := hr j l _ hl' (List.getElem?_eq_getElem hj')
      rcases h2 with h2 | ⟨h2, h3⟩
      · rw [h2]; exact h0
      · have hso := hs hZ l (List.mem_of_getElem? hl')
        cases l with
        | unk => exact .unk _ h3
        | sl c es => rw [h00.not_plain] at h2; simp at h2
        | _ => simp [Leaf.soft] at hso
theorem RepL.keeps {w w' : World} {F F' : Fr} (k : Keeps N w F w' F') {l : (Leaf m)} {v : Value} (h : RepL w F N l v) : RepL w' F' N l v := by
  induction h with
  | bool b => exact .bool b
  | int k n => exact .int k n
  | str s => exact .str s
  | unk v h => exact .unk v h
  | nl e => exact .nl e
  | sl c es A cap z vals hc hz hv hcell hr ih =>
    by_cases hpos : 0 < es.length
    · obtain ⟨g, o, e, hn, hle, hso, hcells⟩ := hcell hpos
      have hfl : vals.length = es.flatten.length := by rw [hv, List.length_flatten, show es.map List.length = List.replicate es.length z from List.eq_replicate_iff.2 ⟨by simp, by simpa using hz⟩, List.sum_replicate_nat]
      obtain ⟨vals', h1, h2, h3⟩ := row_keeps k hfl hle hso.2 hcells fun j l v a b => ⟨hr j l v a b, ih j l v a b⟩
      exact .sl c es A cap z vals' hc hz (h1.trans hv) (fun _ => ⟨g, o, e, ⟨by rw [h1]; exact hn.1, hn.2.to (k.fz g)⟩, by rw [h1]; exact Nat.le_trans hle (k.le g), hso, h2⟩) h3
    · exact .sl c es A cap z vals hc hz hv (fun h => absurd h hpos) ih
theorem RepL.one {w : World} {F : Fr} {l : (Leaf m)} {v : Value} (h : RepL w F N l v) : v.oneCell' = true := by
  cases h <;> try rfl
  rename_i h; cases v <;> first | rfl | simp [plainV] at h
theorem RepL.cells {w : World} {F : Fr} {l : (Leaf m)} {v : Value} (h : RepL w F N l v) : v.cells = #[v] := by
  cases h <;> try rfl
  rename_i h; cases v <;> first | rfl | simp [plainV] at h
def RepR (w : World) (F : Fr) (N : Env) (ls : List (Leaf m)) (vs : List Value) : Prop := vs.length = ls.length ∧ ∀ (j : Nat) (l : (Leaf m)) (v : Value), ls[j]? = some l → vs[j]? = some v → RepL w F N l v
theorem RepR.keeps {w w' : World} {F F' : Fr} (k : Keeps N w F w' F') {ls : List (Leaf m)} {vs : List Value} (h : RepR w F N ls vs) : RepR w' F' N ls vs :=
  ⟨h.1, fun j l v a b => (h.2 j l v a b).keeps k⟩
theorem RepR.nil (w : World) (F : Fr) (N : Env) : RepR w F N ([] : List (Leaf m)) [] := ⟨rfl, fun j l v h => by simp at h⟩
theorem RepR.cons {w : World} {F : Fr} {l : (Leaf m)} {v : Value} {ls : List (Leaf m)} {vs : List Value} (h : RepL w F N l v) (hs : RepR w F N ls vs) : RepR w F N (l :: ls) (v :: vs) := by
  refine ⟨by simp [hs.1], fun j l' v' a b => ?_⟩
  cases j with
  | zero => simp at a b; subst a b; exact h
  | succ j => simp at a b; exact hs.2 j l' v' a b
theorem RepR.uncons {w : World} {F : Fr} {l : (Leaf m)} {ls : List (Leaf m)} {vs : List Value} (h : RepR w F N (l :: ls) vs) : ∃ v r, vs = v :: r ∧ RepL w F N l v ∧ RepR w F N ls r := by
  cases vs with
  | nil => simp [RepR] at h
  | cons v r => exact ⟨v, r, rfl, h.2 0 l v rfl rfl, by simpa using h.1, fun j l' v' a b => h.2 (j + 1) l' v' (by simpa using a) (by simpa using b)⟩
theorem RepR.append {w : World} {F : Fr} {a b : List (Leaf m)} {x y : List Value} (h : RepR w F N a x) (k : RepR w F N b y) : RepR w F N (a ++ b) (x ++ y) := by
  induction a generalizing x with
  | nil => obtain rfl : x = [] := List.eq_nil_of_length_eq_zero h.1; simpa using k
  | cons l a ih =>
    obtain ⟨v, r, rfl, h1, h2⟩ := h.uncons
    exact RepR.cons h1 (ih h2)
theorem RepR.drop {w : World} {F : Fr} {a : List (Leaf m)} {x : List Value} (h : RepR w F N a x) (n : Nat) : RepR w F N (a.drop n) (x.drop n) :=
  ⟨by simp [h.1], fun j l v p q => h.2 (n + j) l v (by simpa using p) (by simpa using q)⟩
theorem RepR.take {w : World} {F : Fr} {a : List (Leaf m)} {x : List Value} (h : RepR w F N a x) (n : Nat) : RepR w F N (a.take n) (x.take n) := by
  refine ⟨by simp [h.1], fun j l v p q => ?_⟩
  rw [List.getElem?_take] at p q
  split at p
  · rename_i hj; simp only [hj, if_true] at q; exact h.2 j l v p q
  · simp at p
theorem RepR.get {w : World} {F : Fr} {a : List (Leaf m)} {x : List Value} (h : RepR w F N a x) {j : Nat} {l : (Leaf m)} (hl : a[j]? = some l) : ∃ v, x[j]? = some v ∧ RepL w F N l v := by
  have hj : j < x.length := by rw [h.1]; exact (List.getElem?_eq_some_iff.1 hl).1
  exact ⟨x[j], List.getElem?_eq_getElem hj, h.2 j l _ hl (List.getElem?_eq_getElem hj)⟩
theorem RepR.one {w : World} {F : Fr} {a : List (Leaf m)} {x : List Value} (h : RepR w F N a x) : ∀ v ∈ x, v.oneCell' = true := by
  intro v hv
  obtain ⟨j, hj, rfl⟩ := List.getElem_of_mem hv
  have hj' : j < a.length := by rw [← h.1]; exact hj
  exact (h.2 j a[j] _ (List.getElem?_eq_getElem hj') (List.getElem?_eq_getElem hj)).one
theorem repL_sl {w : World} {F : Fr} {c : Fl m} {es : List (List (Leaf m))} {v : Value} (h : RepL w F N (.sl c es) v) :
    ∃ A cap z vals, v = .slice A es.length cap ∧ es.length ≤ cap ∧ (∀ e ∈ es, e.length = z) ∧ vals.length = es.length * z ∧
      (0 < es.length → ∃ g o, A = some ⟨g, o, none⟩ ∧ (0 < vals.length ∧ c.Holds N w g o) ∧ o + vals.length ≤ F g ∧ ((c.isSoft = true → N.Z g = true) ∧ (N.Z g = true → ∀ l ∈ es.flatten, l.soft = true)) ∧ ∀ (j : Nat) (v : Value), vals[j]? = some v → w.cell? ⟨g, o + j, none⟩ = some v) ∧ RepR w F N es.flatten vals := by
  cases h with
  | sl c es A cap z vals hc hz hv hcell hrep =>
    exact ⟨A, cap, z, vals, rfl, hc, hz, hv, hcell, by rw [hv, List.length_flatten, show es.map List.length = List.replicate es.length z from List.eq_replicate_iff.2 ⟨by simp, by simpa using hz⟩, List.sum_replicate_nat], hrep⟩
theorem flatten_length {es : List (List (Leaf m))} {z : Nat} (hz : ∀ e ∈ es, e.length = z) : es.flatten.length = es.length * z := by
  rw [List.length_flatten, show es.map List.length = List.replicate es.length z from List.eq_replicate_iff.2 ⟨by simp, by simpa using hz⟩, List.sum_replicate_nat]
theorem repL_sl_mk {w : World} {F : Fr} {c : Fl m} {es : List (List (Leaf m))} {A : Option Addr} {cap z : Nat} {vals : List Value} (hc : es.length ≤ cap) (hz : ∀ e ∈ es, e.length = z)
    (hcell : 0 < es.length → ∃ g o, A = some ⟨g, o, none⟩ ∧ (0 < vals.length ∧ c.Holds N w g o) ∧ o + vals.length ≤ F g ∧ ((c.isSoft = true → N.Z g = true) ∧ (N.Z g = true → ∀ l ∈ es.flatten, l.soft = true)) ∧ ∀ (j : Nat) (v : Value), vals[j]? = some v → w.cell? ⟨g, o + j, none⟩ = some v) (hr : RepR w F N es.flatten vals) : RepL w F N (.sl c es) (.slice A es.length cap) :=
  .sl c es A cap z vals hc hz (by rw [hr.1, flatten_length hz]) hcell hr.2
def RepF (w : World) (F : Fr) (N : Env) (bm : Nat → Nat) (al : Nat → Bool) : (SV m) → Value → Prop
  | .any, _ => True
  | .skip, v => v = undef
  | .leaf l, v => RepL w F N l v
  | .agg cs, v => ∃ vs, v = .agg vs ∧ RepR w F N cs vs.toList
  | .ptr b o, v => v = .pointer (some ⟨bm b, o, none⟩) ∧ al b = true
  | .bsl b z lo n, v => ((n = 0 ∧ ∃ A cap, v = .slice A 0 cap) ∨ ∃ cap, v = .slice (some ⟨bm b, lo * z, none⟩) n cap ∧ n ≤ cap) ∧ al b = true
  | .eptr c e o, v => ∃ g p vals, v = .pointer (some ⟨g, p + o, none⟩) ∧ p + e.length ≤ F g ∧ (c.At N g ∧ (N.Z g = true → ∀ l ∈ e, l.soft = true)) ∧ RepR w F N e vals ∧ ∀ (j : Nat) (u : Value), vals[j]? = some u → w.cell? ⟨g, p + j, none⟩ = some u
  | .kfn f cs, v => ∃ g o vs, v = .pointer (some ⟨g, o, none⟩) ∧ (o < F g ∧ N.Z g = false) ∧ w.cell? ⟨g, o, none⟩ = some (.func (.func f) #[] vs) ∧ vs.size = cs.length ∧
      ∀ (j : Nat) (c : Option (Nat × Nat)) (u : Value), cs[j]? = some c → vs[j]? = some u → match c with | none => u = v | some p => u = .pointer (some ⟨bm p.1, p.2, none⟩) ∧ al p.1 = true
  | .nilptr, v => v = .pointer none
  | .nilface, v => v = .nilIface
  | _, _ => False
def RepO (P : Program) (w : World) (F : Fr) (N : Env) (Ow : Own) (loc : Loc) (q : Bool) (eo : Option TypeId) (es : List (List (Leaf m))) (v : Value) : Prop :=
  (v = .slice none 0 0 ∧ es = []) ∨
  ∃ g cap cur e i vals, N.n ≤ g ∧ eo = some e ∧ P.info? e = some i ∧ 0 < i.size ∧ v = .slice (some ⟨g, 0, none⟩) es.length cap ∧ w.heap[g]? = some (.cells cur e (0, 0)) ∧ es.length ≤ cap ∧ cap ≤ maxLen ∧ cur.size = cap * i.size ∧
    (∀ x ∈ es, x.length = i.size) ∧ Ow g = some loc ∧ F g = (if q = true then 0 else es.length * i.size) ∧ cur.toList.take (es.length * i.size) = vals ∧ RepR w F N es.flatten vals
def RepS (P : Program) (w : World) (F : Fr) (N : Env) (Ow : Own) (bm : Nat → Nat) (al : Nat → Bool) (loc : Loc) : (SV m) → Value → Prop
  | .own eo es, v => RepO P w F N Ow loc false eo es v
  | .raw eo es, v => RepO P w F N Ow loc true eo es v
  | .fn f caps, v => ∃ vs, v = .func (.func f) #[] vs ∧ vs.size = caps.length ∧ ∀ (j : Nat) (c : (SV m)) (u : Value), caps[j]? = some c → vs[j]? = some u → RepF w F N bm al c u
  | .tup cs, v => ∃ vs, v = .tuple vs ∧ vs.size = cs.length ∧ ∀ (j : Nat) (c : (SV m)) (u : Value), cs[j]? = some c → vs[j]? = some u → RepF w F N bm al c u
  | x, v => RepF w F N bm al x v
theorem RepF.keeps {w w' : World} {F F' : Fr} {bm : Nat → Nat} {al : Nat → Bool} (k : Keeps N w F w' F') {x : (SV m)} {v : Value} (h : RepF w F N bm al x v) : RepF w' F' N bm al x v := by
  cases x <;> simp only [RepF] at h ⊢ <;> try exact h
  · exact h.keeps k
  · obtain ⟨vs, e, hr⟩ := h; exact ⟨vs, e, hr.keeps k⟩
  · obtain ⟨g, p, vals, e, hle, hso, hr, hc⟩ := h
    obtain ⟨vals', h1, h2, h3⟩ := row_keeps k hr.1 (by rw [hr.1]; exact hle) hso.2 hc fun j l v a b => ⟨hr.2 j l v a b, (hr.keeps k).2 j l v a b⟩
    exact ⟨g, p, vals', e, Nat.le_trans hle (k.le g), hso, ⟨h1.trans hr.1, h3⟩, h2⟩
  · obtain ⟨g, o, vs, e, ho, hc, hs, hr⟩ := h
    exact ⟨g, o, vs, e, ⟨Nat.lt_of_lt_of_le ho.1 (k.le g), ho.2⟩, by rw [k.hard g o ho.1 ho.2]; exact hc, hs, hr⟩
theorem RepF.boxes {w : World} {F : Fr} {bm bm' : Nat → Nat} {al al' : Nat → Bool} {x : (SV m)} {v : Value} (h : RepF w F N bm al x v) (hb : ∀ b, al b = true → bm' b = bm b ∧ al' b = true) : RepF w F N bm' al' x v := by
  cases x <;> simp only [RepF] at h ⊢ <;> try exact h
  · obtain ⟨e, ha⟩ := h
    obtain ⟨h1, h2⟩ := hb _ ha
    exact ⟨by rw [h1]; exact e, h2⟩
  · obtain ⟨h, ha⟩ := h
    obtain ⟨h1, h2⟩ := hb _ ha
    exact ⟨h.imp id fun ⟨cap, e, hc⟩ => ⟨cap, by rw [h1]; exact e, hc⟩, h2⟩
  · obtain ⟨g, o, vs, e, ho, hc, hs, hr⟩ := h
    refine ⟨g, o, vs, e, ho, hc, hs, fun j c u a b => ?_⟩
    have := hr j c u a b
    cases c with
    | none => exact this
    | some p =>
      obtain ⟨e', ha⟩ := this
      obtain ⟨h1, h2⟩ := hb _ ha
      exact ⟨by rw [h1]; exact e', h2⟩
theorem RepO.keeps {P : Program} {w w' : World} {F F' : Fr} {Ow Ow' : Own} {loc loc' : Loc} {q : Bool} {eo : Option TypeId} {es : List (List (Leaf m))} {v : Value} (k : Keeps N w F w' F') (h : RepO P w F N Ow loc q eo es v)
    (hb : ∀ g, Ow g = some loc → w'.heap[g]? = w.heap[g]? ∧ F' g = F g ∧ Ow' g = some loc') : RepO P w' F' N Ow' loc' q eo es v := by
  rcases h with h | ⟨g, cap, cur, e, i, vals, hn, he, hi, hz, hv, hg, hc, hm, hs, hx, ho, hf, ht, hr⟩
  · exact .inl h
  · obtain ⟨b1, b2, b3⟩ := hb g ho
    exact .inr ⟨g, cap, cur, e, i, vals, hn, he, hi, hz, hv, b1.trans hg, hc, hm, hs, hx, b3, b2.trans hf, ht, hr.keeps k⟩
theorem RepS.keeps {P : Program} {w w' : World} {F F' : Fr} {Ow Ow' : Own} {bm bm' : Nat → Nat} {al al' : Nat → Bool} {loc loc' : Loc} {x : (SV m)} {v : Value} (k : Keeps N w F w' F') (h : RepS P w F N Ow bm al loc x v)
    (hp : ∀ b, al b = true → bm' b = bm b ∧ al' b = true) (hb : ∀ g, Ow g = some loc → w'.heap[g]? = w.heap[g]? ∧ F' g = F g ∧ Ow' g = some loc') : RepS P w' F' N Ow' bm' al' loc' x v := by
  cases x
  case own eo es => exact RepO.keeps k h hb
  case raw eo es => exact RepO.keeps k h hb
  case fn f caps => obtain ⟨vs, e, hs, hc⟩ := h; exact ⟨vs, e, hs, fun j c u a b => ((hc j c u a b).keeps k).boxes hp⟩
  case tup cs => obtain ⟨vs, e, hs, hc⟩ := h; exact ⟨vs, e, hs, fun j c u a b => ((hc j c u a b).keeps k).boxes hp⟩
  all_goals (simp only [RepS] at h ⊢; exact (RepF.keeps k h).boxes hp)
theorem RepO.leaf {P : Program} {w : World} {F : Fr} {Ow : Own} {loc : Loc} {eo : Option TypeId} {es : List (List (Leaf m))} {v : Value} (h : RepO P w F N Ow loc false eo es v) : RepL w F N (.sl (Fl.new m) es) v := by
  rcases h with ⟨rfl, rfl⟩ | ⟨g, cap, cur, e, i, vals, hn, he, hi, hz, rfl, hg, hc, hm, hs, hx, ho, hf, ht, hr⟩
  · exact repL_sl_mk (es := []) (z := 0) (vals := []) (Nat.le_refl _) (by simp) (fun h => by simp at h) (RepR.nil _ _ _)
  · simp only [Bool.false_eq_true, if_false] at hf
    refine repL_sl_mk hc hx (fun hpos => ⟨g, 0, rfl, ⟨by rw [hr.1, flatten_length hx]; exact Nat.mul_pos (by assumption) hz, Fl.Holds.mk_new hn ⟨cur, e, hg⟩⟩, ?_, ⟨fun h => by rw [Fl.soft_new] at h; simp at h, fun hz => absurd (N.lt g hz) (Nat.not_lt.2 hn)⟩, fun j v hj => ?_⟩) hr
    · rw [hr.1, flatten_length hx, hf]; omega
    · subst ht
      rw [List.getElem?_take] at hj
      split at hj
      · simp only [World.cell?, hg]; simpa using hj
      · simp at hj
theorem RepS.drop {P : Program} {w : World} {F : Fr} {Ow Ow' : Own} {bm : Nat → Nat} {al : Nat → Bool} {loc loc' : Loc} {x : (SV m)} {v : Value} (h : RepS P w F N Ow bm al loc x v) : RepS P w F N Ow' bm al loc' x.drop v := by
  cases x
  case own eo es => exact RepO.leaf h
  case raw eo es => simp only [SV.drop, RepS, RepF]
  all_goals exact h
def RowAt (w : World) (F : Fr) (N : Env) (fs : List (List (Leaf m))) (u : Value) : Prop := ∃ A cap z vals, u = .slice A fs.length cap ∧ fs.length ≤ cap ∧ (∀ e ∈ fs, e.length = z) ∧ vals.length = fs.length * z ∧
  (0 < fs.length → ∃ g o, A = some ⟨g, o, none⟩ ∧ ∀ (j : Nat) (v : Value), vals[j]? = some v → w.cell? ⟨g, o + j, none⟩ = some v) ∧ RepR w F N fs.flatten vals
def RepE (w : World) (F : Fr) (N : Env) : Leaf m → Value → Prop
  | .sl _ es, u => RowAt w F N es u
  | l, u => RepL w F N l u
theorem RepL.see {w : World} {F : Fr} {l : Leaf m} {u : Value} (h : RepL w F N l u) : RepE w F N l u := by
  cases l with
  | sl c es =>
    obtain ⟨A, cap, z, vals, h1, h2, h3, h4, h5, h6⟩ := repL_sl h
    exact ⟨A, cap, z, vals, h1, h2, h3, h4, fun hp => let ⟨g, o, a, _, _, _, c⟩ := h5 hp; ⟨g, o, a, c⟩, h6⟩
  | _ => exact h
theorem RepO.row {P : Program} {w : World} {F : Fr} {Ow : Own} {loc : Loc} {q : Bool} {eo : Option TypeId} {es : List (List (Leaf m))} {v : Value} (h : RepO P w F N Ow loc q eo es v) : RowAt w F N es v := by
  rcases h with ⟨rfl, rfl⟩ | ⟨g, cap, cur, e, i, vals, hn, he, hi, hz, rfl, hg, hc, hm, hs, hx, ho, hf, ht, hr⟩
  · exact ⟨none, 0, 0, [], rfl, Nat.le_refl _, by simp, by simp, fun h => by simp at h, RepR.nil _ _ _⟩
  · refine ⟨_, cap, i.size, vals, rfl, hc, hx, by rw [hr.1, flatten_length hx], fun _ => ⟨g, 0, rfl, fun j v hj => ?_⟩, hr⟩
    subst ht
    rw [List.getElem?_take] at hj
    split at hj
    · simp only [World.cell?, hg]; simpa using hj
    · simp at hj
theorem RepS.seeOf {P : Program} {w : World} {F : Fr} {Ow : Own} {bm : Nat → Nat} {al : Nat → Bool} {loc : Loc} {x : (SV m)} {v : Value} (h : RepS P w F N Ow bm al loc x v) : ∀ l, x.see = .leaf l → RepE w F N l v := by
  intro l hl
  cases x with
  | raw eo es =>
    simp only [SV.see, SV.leaf.injEq] at hl
    subst hl
    exact RepO.row h
  | own eo es =>
    simp only [SV.see, SV.drop, SV.leaf.injEq] at hl
    subst hl
    exact RepO.row h
  | leaf l0 =>
    simp only [SV.see, SV.drop, SV.leaf.injEq] at hl
    subst hl
    exact RepL.see h
  | _ => simp [SV.see, SV.drop] at hl
theorem RepS.bslSee {P : Program} {w : World} {F : Fr} {Ow : Own} {bm : Nat → Nat} {al : Nat → Bool} {loc : Loc} {x : (SV m)} {v : Value} (h : RepS P w F N Ow bm al loc x v) : ∀ b z lo n, x.see = .bsl b z lo n → ∃ A cap, v = .slice A n cap := by
  intro b z lo n hl
  cases x with
  | bsl b' z' lo' n' =>
    simp only [SV.see, SV.drop, SV.bsl.injEq] at hl
    obtain ⟨rfl, rfl, rfl, rfl⟩ := hl
    rcases h with ⟨⟨rfl, A, cap, e⟩ | ⟨cap, e, _⟩, _⟩
    · exact ⟨A, cap, e⟩
    · exact ⟨_, cap, e⟩
  | _ => simp [SV.see, SV.drop] at hl
structure Low (N : Env) (w : World) (F : Fr) : Prop where
  le : N.n ≤ w.heap.size
  know : ∀ k ∈ N.K, k.1.2 < F k.1.1 ∧ N.Z k.1.1 = false ∧ w.cell? ⟨k.1.1, k.1.2, none⟩ = some k.2
  size : ∀ k ∈ N.B, BSz w k.1 k.2
theorem Low.to {w w' : World} {F F' : Fr} (h : Low N w F) (hk : Keeps N w F w' F') (hs : w.heap.size ≤ w'.heap.size) : Low N w' F' :=
  ⟨Nat.le_trans h.le hs, fun k hm => by
    obtain ⟨h1, h2, h3⟩ := h.know k hm
    exact ⟨Nat.lt_of_lt_of_le h1 (hk.le _), h2, by rw [hk.hard _ _ h1 h2]; exact h3⟩, fun k hm => hk.sz _ _ (h.size k hm)⟩
structure Inv (P : Program) (s : (St m)) (tmps : Array Value) (w : World) (F : Fr) (N : Env) (Ow : Own) (bm : Nat → Nat) : Prop where
  len : s.tmps.length = tmps.size
  slot : ∀ t, RepS P w F N Ow bm (fun b => (boxAt s.boxes b).isSome) (.tmp t) (s.tmps.getD t .any) (tmps.getD t undef)
  box : ∀ b cs, boxAt s.boxes b = some cs → cs = [] ∨ ∃ cur e, w.heap[bm b]? = some (.cells cur e (0, 0)) ∧ cs.length ≤ cur.size ∧ F (bm b) = 0 ∧ Ow (bm b) = some (.blk b) ∧
    ∀ (j : Nat) (c : (SV m)) (u : Value), cs[j]? = some c → cur[j]? = some u → RepS P w F N Ow bm (fun b => (boxAt s.boxes b).isSome) (.box b j) c u
  low : Low N w F
  new : ∀ g, w.heap.size ≤ g → F g = 0 ∧ Ow g = none
  bmn : ∀ b cs, boxAt s.boxes b = some cs → N.n ≤ bm b
  zow : ∀ g, N.Z g = true → Ow g = none ∧ ∃ cur e, w.heap[g]? = some (.cells cur e (0, 0))
structure Far (N : Env) (w : World) (F : Fr) (Ow : Own) (w' : World) (F' : Fr) (Ow' : Own) : Prop where
  os : w'.os = w.os
  tape : w'.tape = w.tape
  output : w'.output = w.output
  size : w.heap.size ≤ w'.heap.size
  keeps : Keeps N w F w' F'
  old : ∀ g, g < w.heap.size → Ow g = none → (N.Z g = false → w'.heap[g]? = w.heap[g]?) ∧ F' g = F g ∧ Ow' g = none
theorem Far.refl (w : World) (F : Fr) (Ow : Own) : Far N w F Ow w F Ow := ⟨rfl, rfl, rfl, Nat.le_refl _, Keeps.refl _ _, fun _ _ h => ⟨fun _ => rfl, rfl, h⟩⟩
theorem Far.trans {w w1 w2 : World} {F F1 F2 : Fr} {O O1 O2 : Own} (h : Far N w F O w1 F1 O1) (k : Far N w1 F1 O1 w2 F2 O2) : Far N w F O w2 F2 O2 :=
  ⟨k.os.trans h.os, k.tape.trans h.tape, k.output.trans h.output, Nat.le_trans h.size k.size, h.keeps.trans k.keeps, fun g hg ho => by
    obtain ⟨a, b, c⟩ := h.old g hg ho
    obtain ⟨a', b', c'⟩ := k.old g (Nat.lt_of_lt_of_le hg h.size) c
    exact ⟨fun hz => (a' hz).trans (a hz), b'.trans b, c'⟩⟩
end Go.Vs
end
section
namespace Go.Vs
variable {m : Bool}
variable {P : Program} {w : World} {F : Fr} {N : Env}
def aggD : TypeDesc → Bool | .struct _ | .array _ _ => true | _ => false
theorem isAgg_run {t : TypeId} {d : TypeDesc} (h : P.underlying t = some d) : (isAgg t).run P w = .ok (aggD d) w := by
  simp only [isAgg, Sem.run_bind, run_underlying h, Result.andThen_ok]
  cases d <;> rfl
theorem sizeOf_run {t : TypeId} {i : TypeInfo} (h : P.info? t = some i) : (sizeOf t).run P w = .ok i.size w := by
  simp [sizeOf, typeInfo, h]
theorem repL_int {k : IntKind} {n : Int} {v : Value} (h : RepL (m := m) w F N (.int k n) v) : v = .int k n := by cases h; rfl
theorem repL_bool {b : Bool} {v : Value} (h : RepL (m := m) w F N (.bool b) v) : v = .bool b := by cases h; rfl
theorem repL_str {s : ByteArray} {v : Value} (h : RepL (m := m) w F N (.str s) v) : v = .string s := by cases h; rfl
theorem intOp_run {op : BinOp} {k : IntKind} {a b : Int} {l : (Leaf m)} (t : TypeId) (h : intOp op k a b = some l) (hop : op ≠ .shl ∧ op ≠ .shr) :
    ∃ v, (binOp op t (.int k a) (.int k b)).run P w = .ok v w ∧ RepL w F N l v := by
  cases op <;> simp only [intOp] at h <;> simp at hop <;> try (simp at h; done)
  all_goals try (simp only [Option.some.injEq] at h; subst h)
  case add => exact ⟨_, by simp [binOp, Op.intArith], .int _ _⟩
  case sub => exact ⟨_, by simp [binOp, Op.intArith], .int _ _⟩
  case mul => exact ⟨_, by simp [binOp, Op.intArith], .int _ _⟩
  case quo =>
    split at h
    · simp at h
    · simp only [Option.some.injEq] at h; subst h; rename_i hb; exact ⟨_, by simp [binOp, Op.intDiv, hb], .int _ _⟩
  case rem =>
    split at h
    · simp at h
    · simp only [Option.some.injEq] at h; subst h; rename_i hb; exact ⟨_, by simp [binOp, Op.intDiv, hb], .int _ _⟩
  case and => exact ⟨_, by simp [binOp, Op.intBits], .int _ _⟩
  all_goals exact ⟨_, by simp [binOp, Op.intCmp], .bool _⟩
theorem shOp_run {op : BinOp} {k k' : IntKind} {a b : Int} {l : (Leaf m)} (t : TypeId) (h : intOp op k a b = some l) (hop : op = .shl ∨ op = .shr) :
    ∃ v, (binOp op t (.int k a) (.int k' b)).run P w = .ok v w ∧ RepL w F N l v := by
  rcases hop with rfl | rfl <;> simp only [intOp] at h <;> split at h <;> simp at h <;> subst h <;> rename_i hb
  · exact ⟨_, by simp [binOp, Op.shift, hb], .int _ _⟩
  · exact ⟨_, by simp [binOp, Op.shift, hb], .int _ _⟩
theorem strOp_run {op : BinOp} {a b : ByteArray} {l : (Leaf m)} (t : TypeId) (h : strOp op a b = some l) :
    ∃ v, (binOp op t (.string a) (.string b)).run P w = .ok v w ∧ RepL w F N l v := by
  cases op <;> simp only [strOp] at h <;> try (simp at h; done)
  case add =>
    split at h
    · rename_i hs
      simp at h; subst h
      exact ⟨_, by simp only [binOp]; exact run_string_add_sum (P := P) (w := w) a b (by omega), .str _⟩
    · simp at h
  all_goals (simp only [Option.some.injEq] at h; subst h; exact ⟨_, by simp only [binOp, Op.stringOp, Sem.run_pure], .bool _⟩)
theorem eqBool_run {d : Nat} {a b : Bool} {t : TypeId} (ht : P.underlying t = some .bool) : (Op.equalIn (d + 1) t (.bool a) (.bool b)).run P w = .ok (a == b) w := by
  simp [Op.equalIn, run_underlying ht]
theorem boolOp_run {op : BinOp} {a b : Bool} {l : (Leaf m)} {t : TypeId} (ht : P.underlying t = some .bool) (h : boolOp op a b = some l) :
    ∃ v, (binOp op t (.bool a) (.bool b)).run P w = .ok v w ∧ RepL w F N l v := by
  cases op <;> simp only [boolOp] at h <;> try (simp at h; done)
  all_goals
    simp only [Option.some.injEq] at h
    subst h
    have he : (Op.equal t (.bool a) (.bool b)).run P w = .ok (a == b) w := eqBool_run (d := 9999) ht
  · exact ⟨.bool (a == b), by
      rw [show binOp .eql t (.bool a) (.bool b) = (do pure (.bool (← Op.equal t (.bool a) (.bool b)))) from rfl]
      simp [he], .bool _⟩
  · exact ⟨.bool (!(a == b)), by
      rw [show binOp .neq t (.bool a) (.bool b) = (do pure (.bool (!(← Op.equal t (.bool a) (.bool b))))) from rfl]
      simp [he], .bool _⟩
theorem part_run {t : TypeId} {cs : Array Value} {j : Nat} {v : Value} {d : TypeDesc} (hu : P.underlying t = some d) (hd : aggD d = false) (h : cs[j]? = some v) :
    (part t cs j).run P w = .ok v w := by
  simp [part, isAgg_run hu, hd, h]
theorem eqLeaf_run {t : TypeId} {a b : (Leaf m)} {e : Bool} {d : Nat} {u v : Value} (h : eqLeaf P t a b = some e) (ha : RepL w F N a u) (hb : RepL w F N b v) :
    (Op.equalIn (d + 1) t u v).run P w = .ok e w ∧ ∃ d', P.underlying t = some d' ∧ aggD d' = false := by
  unfold eqLeaf at h
  split at h
  · rename_i hu
    split at h
    · rename_i hk; subst hk
      simp only [Option.some.injEq] at h; subst h
      cases repL_int ha; cases repL_int hb
      exact ⟨by simp [Op.equalIn, run_underlying hu], _, hu, rfl⟩
    · simp at h
  · rename_i hu
    simp only [Option.some.injEq] at h; subst h
    cases repL_bool ha; cases repL_bool hb
    exact ⟨by simp [Op.equalIn, run_underlying hu], _, hu, rfl⟩
  · rename_i hu
    simp only [Option.some.injEq] at h; subst h
    cases repL_str ha; cases repL_str hb
    exact ⟨by simp [Op.equalIn, run_underlying hu], _, hu, rfl⟩
  · simp at h
theorem eqFieldsV_run {d : Nat} {xs ys : Array Value} : ∀ (fs : List Field) (j : Nat) (a b : List (Leaf m)) (e : Bool), eqFieldsV P j fs a b = some e →
    RepR w F N a (xs.toList.drop j) → RepR w F N b (ys.toList.drop j) → (Op.eqFields (d + 1) xs ys fs).run P w = .ok e w
  | [], j, [], [], e, h, _, _ => by simp [eqFieldsV] at h; subst h; simp [Op.eqFields]
  | [], _, [], _ :: _, _, h, _, _ | [], _, _ :: _, _, _, h, _, _ => by simp [eqFieldsV] at h
  | _ :: _, _, [], _, _, h, _, _ => by simp [eqFieldsV] at h
  | _ :: _, _, _ :: _, [], _, h, _, _ => by simp [eqFieldsV] at h
  | f :: fs, j, a :: x, b :: y, e, h, ha, hb => by
    simp only [eqFieldsV] at h
    split at h
    · rename_i hf
      simp only [Bool.and_eq_true, beq_iff_eq, bne_iff_ne, ne_eq] at hf
      obtain ⟨hoff, hn⟩ := hf
      rw [Option.bind_eq_some_iff] at h
      obtain ⟨e1, h1, h2⟩ := h
      rw [Option.map_eq_some_iff] at h2
      obtain ⟨e2, h3, rfl⟩ := h2
      obtain ⟨u, xs', hx, hu1, hx1⟩ := ha.uncons
      obtain ⟨v, ys', hy, hv1, hy1⟩ := hb.uncons
      obtain ⟨he, d', hd1, hd2⟩ := eqLeaf_run (d := d) h1 hu1 hv1
      have gx : xs[j]? = some u := by
        have := congrArg (·[0]?) hx
        simpa using this
      have gy : ys[j]? = some v := by
        have := congrArg (·[0]?) hy
        simpa using this
      have tx : xs.toList.drop (j + 1) = xs' := by rw [← List.drop_drop, hx]; rfl
      have ty : ys.toList.drop (j + 1) = ys' := by rw [← List.drop_drop, hy]; rfl
      have ih := eqFieldsV_run (d := d) fs (j + 1) x y e2 h3 (by rw [tx]; exact hx1) (by rw [ty]; exact hy1)
      have px : (part f.type xs f.offset).run P w = .ok u w := by rw [hoff]; exact part_run hd1 hd2 gx
      have py : (part f.type ys f.offset).run P w = .ok v w := by rw [hoff]; exact part_run hd1 hd2 gy
      rw [Op.eqFields]
      simp only [if_pos hn, Sem.run_bind, px, py, he, Result.andThen_ok]
      cases e1
      · simp
      · simpa using ih
    · simp at h
theorem eqStructV_run {t : TypeId} {a b : List (Leaf m)} {e : Bool} {xs ys : Array Value} (h : eqStructV P t a b = some e) (ha : RepR w F N a xs.toList) (hb : RepR w F N b ys.toList) :
    (Op.equal t (.agg xs) (.agg ys)).run P w = .ok e w ∧ P.eqGuardType P.depth t = false := by
  unfold eqStructV at h
  split at h
  · rename_i fs hu
    split at h
    · simp at h
    · rename_i hg
      simp only [Bool.or_eq_true, not_or, Bool.not_eq_true] at hg
      refine ⟨?_, hg.2⟩
      have hf : P.fieldsOf t = fs := by simp [Program.fieldsOf, hu]
      unfold Op.equal Op.maxDepth
      rw [run_equalIn_struct (P := P) w 9999 t xs ys (by rw [hf]; exact hu) hg.1, hf]
      exact eqFieldsV_run (d := 9998) fs.toList 0 a b e h (by simpa using ha) (by simpa using hb)
  · simp at h
theorem eqGuard_not_nil {op : BinOp} {t : TypeId} {x y : Operand} {u v : Value} (hu : u ≠ .nilIface) (ha : ∀ c, u ≠ .agg c) : (eqGuard op t x y u v).run P w = .ok () w := by
  cases op <;> try rfl
  all_goals (cases u <;> first | rfl | exact absurd rfl hu | exact absurd rfl (ha _))
theorem binV_run {op : BinOp} {t : TypeId} {x y : (SV m)} {v : (SV m)} {u u' : Value} {o o' : Operand} (h : binV P op t x y = some v)
    (hx : ∀ l, x.drop = .leaf l → RepL w F N l u) (hy : ∀ l, y.drop = .leaf l → RepL w F N l u')
    (hxa : ∀ cs, x.drop = .agg cs → ∃ vs, u = .agg vs ∧ RepR w F N cs vs.toList) (hya : ∀ cs, y.drop = .agg cs → ∃ vs, u' = .agg vs ∧ RepR w F N cs vs.toList) :
    ∃ z, (do eqGuard op t o o' u u'; binOp op t u u').run P w = .ok z w ∧ ∃ l, v = .leaf l ∧ RepL w F N l z := by
  unfold binV at h
  split at h
  · rename_i k a k' b ex ey
    cases repL_int (hx _ ex); cases repL_int (hy _ ey)
    have hg : (eqGuard op t o o' (.int k a) (.int k' b)).run P w = .ok () w := eqGuard_not_nil (by simp) (by simp)
    simp only [Sem.run_bind, hg, Result.andThen_ok]
    split at h
    · rename_i hop
      rw [Option.map_eq_some_iff] at h
      obtain ⟨l, hl, rfl⟩ := h
      obtain ⟨z, h1, h2⟩ := shOp_run (P := P) (w := w) (F := F) (N := N) (k' := k') t hl (by cases op <;> simp [isShift] at hop ⊢)
      exact ⟨z, h1, l, rfl, h2⟩
    · rename_i hop
      split at h
      · rename_i hk; subst hk
        rw [Option.map_eq_some_iff] at h
        obtain ⟨l, hl, rfl⟩ := h
        obtain ⟨z, h1, h2⟩ := intOp_run (P := P) (w := w) (F := F) (N := N) t hl (by constructor <;> rintro rfl <;> simp [isShift] at hop)
        exact ⟨z, h1, l, rfl, h2⟩
      · simp at h
  · rename_i a b ex ey
    cases repL_str (hx _ ex); cases repL_str (hy _ ey)
    have hg : (eqGuard op t o o' (.string a) (.string b)).run P w = .ok () w := eqGuard_not_nil (by simp) (by simp)
    simp only [Sem.run_bind, hg, Result.andThen_ok]
    rw [Option.map_eq_some_iff] at h
    obtain ⟨l, hl, rfl⟩ := h
    obtain ⟨z, h1, h2⟩ := strOp_run (P := P) (w := w) (F := F) (N := N) t hl
    exact ⟨z, h1, l, rfl, h2⟩
  · rename_i a b ex ey
    cases repL_bool (hx _ ex); cases repL_bool (hy _ ey)
    have hg : (eqGuard op t o o' (.bool a) (.bool b)).run P w = .ok () w := eqGuard_not_nil (by simp) (by simp)
    simp only [Sem.run_bind, hg, Result.andThen_ok]
    split at h
    · rename_i hb
      have ht : P.underlying t = some .bool := by unfold isBoolT at hb; split at hb <;> simp_all
      rw [Option.map_eq_some_iff] at h
      obtain ⟨l, hl, rfl⟩ := h
      obtain ⟨z, h1, h2⟩ := boolOp_run (P := P) (w := w) (F := F) (N := N) ht hl
      exact ⟨z, h1, l, rfl, h2⟩
    · simp at h
  · rename_i a b ex ey
    obtain ⟨xs, rfl, rx⟩ := hxa _ ex
    obtain ⟨ys, rfl, ry⟩ := hya _ ey
    split at h
    · rw [Option.map_eq_some_iff] at h
      obtain ⟨e, he, rfl⟩ := h
      obtain ⟨h1, h2⟩ := eqStructV_run he rx ry
      exact ⟨.bool e, by simp [eqGuard, h2, binOp, h1], _, rfl, .bool _⟩
    · rw [Option.map_eq_some_iff] at h
      obtain ⟨e, he, rfl⟩ := h
      obtain ⟨h1, h2⟩ := eqStructV_run he rx ry
      exact ⟨.bool !e, by simp [eqGuard, h2, binOp, h1], _, rfl, .bool _⟩
    · simp at h
  · simp at h
end Go.Vs
end
section
namespace Go.Vs
variable {m : Bool}
variable {P : Program} {w : World} {F : Fr} {N : Env}
theorem guarded_eq {β : Type} {b : Bool} {x : Option β} {y : β} (h : guarded b x = some y) : b = true ∧ x = some y := by
  cases b
  · simp [guarded] at h
  · exact ⟨rfl, h⟩
theorem sized_mem {n : Nat} {es : List (List (Leaf m))} (h : sized n es = true) : ∀ e ∈ es, e.length = n := by
  intro e he
  have := List.all_eq_true.1 h e he
  simpa using this
theorem flatten_drop {z : Nat} : ∀ (es : List (List (Leaf m))) (n : Nat), (∀ e ∈ es, e.length = z) → (es.drop n).flatten = es.flatten.drop (n * z)
  | [], n, _ => by simp
  | e :: es, 0, _ => by simp
  | e :: es, n + 1, h => by
    rw [List.drop_succ_cons, flatten_drop es n (fun x hx => h x (List.mem_cons_of_mem _ hx)), List.flatten_cons, List.drop_append]
    have := h e List.mem_cons_self
    rw [List.drop_eq_nil_of_le (as := e) (by rw [Nat.add_mul]; omega), List.nil_append]
    congr 1
    rw [Nat.add_mul]; omega
theorem flatten_take {z : Nat} : ∀ (es : List (List (Leaf m))) (n : Nat), (∀ e ∈ es, e.length = z) → (es.take n).flatten = es.flatten.take (n * z)
  | [], n, _ => by simp
  | e :: es, 0, _ => by simp
  | e :: es, n + 1, h => by
    rw [List.take_succ_cons, List.flatten_cons, flatten_take es n (fun x hx => h x (List.mem_cons_of_mem _ hx)), List.flatten_cons, List.take_append]
    have := h e List.mem_cons_self
    rw [List.take_of_length_le (l := e) (by rw [Nat.add_mul]; omega)]
    congr 2
    rw [Nat.add_mul]; omega
theorem flatten_at {z : Nat} {es : List (List (Leaf m))} {n : Nat} {e : List (Leaf m)} (h : ∀ e ∈ es, e.length = z) (he : es[n]? = some e) : (es.flatten.drop (n * z)).take z = e := by
  rw [← flatten_drop es n h]
  have hlt := (List.getElem?_eq_some_iff.1 he).1
  have : es.drop n = e :: es.drop (n + 1) := by
    rw [List.drop_eq_getElem_cons hlt]
    congr 1
    exact (List.getElem?_eq_some_iff.1 he).2
  rw [this, List.flatten_cons, List.take_append]
  have hl := h e (List.mem_of_getElem? he)
  rw [List.take_of_length_le (by omega)]
  simp [hl]
theorem sizeT_eq {t : TypeId} {n : Nat} (h : sizeT P t = some n) : ∃ d i, P.underlying t = some d ∧ P.info? t = some i ∧ i.size = n := by
  unfold sizeT at h
  split at h
  · rename_i d hd
    rw [Option.map_eq_some_iff] at h
    obtain ⟨i, hi, rfl⟩ := h
    exact ⟨d, i, hd, hi, rfl⟩
  · simp at h
theorem elemT_eq {t e : TypeId} (h : elemT P t = some e) : P.underlying t = some (.slice e) := by
  unfold elemT at h
  split at h <;> simp_all
theorem isAggT_eq {t : TypeId} {d : TypeDesc} (h : P.underlying t = some d) : isAggT P t = aggD d := by
  unfold isAggT
  cases d <;> simp [h, aggD]
theorem natOf_int {x : (SV m)} {n : Nat} {v : Value} (h : natOf x = some n) (hx : ∀ l, x = .leaf l → RepL w F N l v) : ∃ k, v = .int k n := by
  unfold natOf at h
  split at h
  · rename_i k m
    split at h
    · rename_i hm
      simp only [Option.some.injEq] at h
      subst h
      refine ⟨k, ?_⟩
      have := repL_int (hx _ rfl)
      rw [this]
      congr 1
      omega
    · simp at h
  · simp at h
theorem partL_run {t : TypeId} {cs : List (Leaf m)} {o : Nat} {v : (SV m)} {vs : Array Value} (h : partL P t cs o = some v) (hr : RepR w F N cs vs.toList) :
    ∃ z, (part t vs o).run P w = .ok z w ∧ ((∃ l, v = .leaf l ∧ RepL w F N l z) ∨ ∃ ls us, v = .agg ls ∧ z = .agg us ∧ RepR w F N ls us.toList) := by
  unfold partL at h
  cases hd : P.underlying t with
  | none =>
    have : isAggT P t = true := by simp [isAggT, hd]
    simp [this, sizeT, hd] at h
  | some d =>
    rw [isAggT_eq hd] at h
    split at h
    · rename_i ha
      rw [Option.bind_eq_some_iff] at h
      obtain ⟨n, hn, h⟩ := h
      obtain ⟨d', i, hd', hi, rfl⟩ := sizeT_eq hn
      split at h
      · rename_i hle
        simp only [Option.some.injEq] at h
        subst h
        refine ⟨.agg (vs.extract o (o + i.size)), by simp [part, isAgg_run hd, ha, sizeOf_run hi], .inr ⟨_, _, rfl, rfl, ?_⟩⟩
        have := (hr.drop o).take i.size
        simpa [Array.toList_extract, List.extract_eq_take_drop] using this
      · simp at h
    · rename_i ha
      rw [Option.map_eq_some_iff] at h
      obtain ⟨l, hl, rfl⟩ := h
      obtain ⟨z, hz, hr'⟩ := hr.get hl
      exact ⟨z, part_run hd (by simpa using ha) (by simpa using hz), .inl ⟨l, rfl, hr'⟩⟩
theorem lenV_run {ts : Array TypeId} {ty : TypeId} {x v : (SV m)} {u : Value} (h : lenV P ts x = some v) (hx : ∀ l, x.see = .leaf l → RepE w F N l u) (hb : ∀ b z lo n, x.see = .bsl b z lo n → ∃ A cap, u = .slice A n cap) :
    ∃ z, (Builtin.len_ ts ty #[u]).run P w = .ok z w ∧ ∃ l, v = .leaf l ∧ RepL w F N l z := by
  unfold lenV at h
  cases ht : ts[0]? with
  | none => rw [ht] at h; simp at h
  | some t =>
    rw [ht] at h
    simp only [Option.bind_some] at h
    split at h
    · rename_i s hu ex
      simp only [Option.some.injEq] at h; subst h
      cases repL_str (show RepL w F N (.str s) u from hx _ ex)
      exact ⟨.int .i64 s.size, by simp [Builtin.len_, ht, run_underlying hu, goInt], _, rfl, .int _ _⟩
    · rename_i e c es hu ex
      simp only [Option.some.injEq] at h; subst h
      obtain ⟨A, cap, z, vals, rfl, _⟩ := hx _ ex
      exact ⟨.int .i64 es.length, by simp [Builtin.len_, ht, run_underlying hu, goInt], _, rfl, .int _ _⟩
    · rename_i e b z lo n hu ex
      simp only [Option.some.injEq] at h; subst h
      obtain ⟨A, cap, rfl⟩ := hb _ _ _ _ ex
      exact ⟨.int .i64 n, by simp [Builtin.len_, ht, run_underlying hu, goInt], _, rfl, .int _ _⟩
    · simp at h
theorem minV_run {b : Bool} {ts : Array TypeId} {ty : TypeId} {x y v : (SV m)} {u u' : Value} (h : minV b x y = some v) (hx : ∀ l, x = .leaf l → RepL w F N l u) (hy : ∀ l, y = .leaf l → RepL w F N l u') :
    ∃ z, (if b then Builtin.max_ ts ty #[u, u'] else Builtin.min_ ts ty #[u, u']).run P w = .ok z w ∧ ∃ l, v = .leaf l ∧ RepL w F N l z := by
  unfold minV at h
  split at h
  · rename_i k a k' c
    split at h
    · rename_i hk; subst hk
      simp only [Option.some.injEq] at h; subst h
      cases repL_int (hx _ rfl); cases repL_int (hy _ rfl)
      cases b
      · exact ⟨.int k (if c < a then c else a), by simp [Builtin.min_, Builtin.min2], _, rfl, by simpa using .int _ _⟩
      · exact ⟨.int k (if a < c then c else a), by simp [Builtin.max_, Builtin.max2], _, rfl, by simpa using .int _ _⟩
    · simp at h
  · simp at h
theorem indexV_run {t : TypeId} {x i v : (SV m)} {u u' : Value} (h : indexV P t x i = some v) (hx : ∀ l, x = .leaf l → RepL w F N l u) (hi : ∀ l, i = .leaf l → RepL w F N l u') :
    ∃ z, (Instr.index t u u').run P w = .ok z w ∧ ∃ l, v = .leaf l ∧ RepL w F N l z := by
  unfold indexV at h
  split at h
  · rename_i s k n hu
    split at h
    · rename_i h0
      split at h
      · rename_i hn
        simp only [Option.some.injEq] at h; subst h
        cases repL_str (hx _ rfl); cases repL_int (hi _ rfl)
        have hlt : n.toNat < s.size := by omega
        have hb : (if 0 ≤ n then s[n.toNat]? else none) = some s[n.toNat] := by rw [if_pos h0]; exact getElem?_pos s n.toNat hlt
        have he : s.data.toList.getD n.toNat 0 = s[n.toNat] := by
          have : n.toNat < s.data.toList.length := by rw [Array.length_toList]; exact hlt
          rw [List.getD_eq_getElem?_getD, List.getElem?_eq_getElem this]
          simp [ByteArray.getElem_eq_getElem_data]
        refine ⟨.int .u8 s[n.toNat].toNat, by simp only [Instr.index, asIntOf, Sem.run_bind, Sem.run_pure, Result.andThen_ok, run_underlying hu, hb], _, rfl, ?_⟩
        rw [he]
        exact .int _ _
      · simp at h
    · simp at h
  · simp at h
end Go.Vs
end
