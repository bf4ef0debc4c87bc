/- THE SHADOW RUNNER. A deterministic reading of loaded Go code over values alone: a slice is the list of its elements, a struct the list of its cells; a variable in memory is a box. It follows one order, the text's. No theorem of the machine stands here: definitions. -/
import Derived.Orders
set_option linter.unusedVariables false
set_option linter.unusedSimpArgs false
namespace Go.Vs
variable {m : Bool}

/-- What is known of where a slice lies: in the plain mode nothing, else whether it is new, old, or where one writes. -/
inductive Flag where
  | new | old | soft
def Fl (m : Bool) : Type := match m with | true => Flag | false => Unit
abbrev fP : Fl false := ()
abbrev fOld : Fl true := Flag.old
abbrev fNew : Fl true := Flag.new
abbrev fSoft : Fl true := Flag.soft
def Fl.new (m : Bool) : Fl m := match m with | true => Flag.new | false => ()
def Fl.fresh {m : Bool} (c : Fl m) : Bool := match m, c with | true, Flag.new => true | _, _ => false
def Fl.isSoft {m : Bool} (c : Fl m) : Bool := match m, c with | true, Flag.soft => true | _, _ => false
theorem Fl.soft_new (m : Bool) : (Fl.new m).isSoft = false := by cases m <;> rfl
instance : Inhabited (Fl m) := ⟨Fl.new m⟩
/-- A cell of plain data. A slice: its elements, each the list of its cells. -/
inductive Leaf (m : Bool) where
  | bool (b : Bool)
  | int (k : IntKind) (n : Int)
  | str (s : ByteArray)
  | unk                                         -- a number, bool or text that is written to
  | sl (c : Fl m) (es : List (List (Leaf m)))   
  deriving Inhabited

/-- What is known of what a slot holds. -/
inductive SV (m : Bool) where
  | any                                   -- nothing is known
  | skip                                  -- just 'undef'
  | leaf (l : (Leaf m))
  | own (e : Option TypeId) (es : List (List (Leaf m)))   -- a slice that may be appended to; its element type (none: nil)
  | agg (cs : List (Leaf m))
  | ptr (b o : Nat)                       -- into box b, at cell o
  | eptr (c : Fl m) (e : List (Leaf m)) (o : Nat)        -- into an element of a slice
  | bsl (b z lo n : Nat)                  -- a slice over box b: n elements of z cells from element lo on
  | nilptr
  | nilface
  | fn (f : FuncId) (caps : List (SV m))
  | tup (vs : List (SV m))
  deriving Inhabited

def SV.drop : (SV m) → (SV m)
  | .own _ es => .leaf (.sl (Fl.new m) es)
  | v => v

structure St (m : Bool) where
  tmps : List (SV m)
  boxes : List (Option (List (SV m)))
  deriving Inhabited

/-- Hints of one function, by region and place: may the ownership be taken along; is a call one without boxes. -/
structure Hints where
  nt : Nat                        -- slots: as the function has them
  mv : Nat → Nat → Bool
  pure : Nat → Nat → Bool
  take : Nat → Nat → Bool         -- does a call take along what may be appended to
  clear : Nat → List Nat          -- at the head of the loop in block n: slots that are forgotten
  drop : Nat → List Nat           -- and boxes
  after : Nat → List Nat          -- behind region n: slots that are forgotten
  afterB : Nat → List Nat         -- and boxes, if nothing points to them
  condA : Nat → List Nat × List Nat   -- behind a choice by a slot, where it holds: slots that are forgotten, boxes
  condB : Nat → List Nat × List Nat   -- and where not

def Hints.fit (h : Hints) (n : Nat) : Hints := { h with nt := n }

abbrev Oracle (m : Bool) := FuncId → List (SV m) → List (List (SV m)) → Option ((SV m) × List (List (SV m)))

def ofConst : Value → (SV m)
  | .bool b => .leaf (.bool b)
  | .int k n => .leaf (.int k n)
  | .string s => .leaf (.str s)
  | .slice none 0 0 => .own none []
  | .pointer none => .nilptr
  | .nilIface => .nilface
  | _ => .any

def St.eval (s : (St m)) : Operand → (SV m)
  | .tmp t => s.tmps.getD t .any
  | .const v => ofConst v
  | .global _ => .any
  | .func f => .fn f []

def St.put (s : (St m)) (dst : Option Tmp) (v : (SV m)) : (St m) :=
  match dst with
  | some d => { s with tmps := s.tmps.set d v }
  | none => s

/-- A number, a bool or a text. -/
def SV.plain : (SV m) → Bool | .leaf (.int _ _) | .leaf (.bool _) | .leaf (.str _) => true | _ => false
def softAt (e : List (Leaf m)) (p : Nat) : Bool := match e[p]? with | some .unk => true | _ => false
/-- What a slot keeps of a value that is taken along. -/
def takeE (ρ : Operand → (SV m)) : Operand → List (Tmp × (SV m))
  | .tmp t => [(t, (ρ (.tmp t)).drop)]
  | _ => []
def setAll (l : List (SV m)) (us : List (Tmp × (SV m))) : List (SV m) := us.foldl (fun l p => l.set p.1 p.2) l
def St.takes (s : (St m)) (xs : List Operand) : (St m) := { s with tmps := setAll s.tmps (xs.flatMap (takeE s.eval)) }
/-- A call's argument: with its ownership or without. -/
def argV (ta : Bool) (ρ : Operand → (SV m)) (x : Operand) : (SV m) := match ta with | true => ρ x | false => (ρ x).drop
def takenL (ta : Bool) (xs : List Operand) : List Operand := match ta with | true => xs | false => []
def St.take (s : (St m)) (x : Operand) : (St m) := s.takes [x]

abbrev Boxes (m : Bool) := List (Option (List (SV m)))
def boxAt (bs : (Boxes m)) (b : Nat) : Option (List (SV m)) := bs.getD b none
def boxesAt (bs : (Boxes m)) : List Nat → Option (List (List (SV m)))
  | [] => some []
  | b :: r => (boxAt bs b).bind fun c => (boxesAt bs r).map (c :: ·)
def putBoxes (bs : (Boxes m)) : List Nat → List (List (SV m)) → (Boxes m)
  | b :: r, c :: cs => putBoxes (bs.set b (some c)) r cs
  | _, _ => bs
def St.box (s : (St m)) (b : Nat) : Option (List (SV m)) := boxAt s.boxes b
def St.setBox (s : (St m)) (b : Nat) (cs : Option (List (SV m))) : (St m) := { s with boxes := s.boxes.set b cs }

/-- A value's cells, as data. -/
def SV.leaves : (SV m) → Option (List (Leaf m))
  | .leaf l => some [l]
  | .own _ es => some [.sl (Fl.new m) es]
  | .agg cs => some cs
  | _ => none
/-- A value's cells, as a box keeps them. -/
def SV.cells : (SV m) → List (SV m)
  | .agg cs => cs.map .leaf
  | v => [v]
def asLeaf : (SV m) → Option (Leaf m)
  | .leaf l => some l
  | .own _ es => some (.sl (Fl.new m) es)
  | _ => none
def asLeaves : List (SV m) → Option (List (Leaf m))
  | [] => some []
  | c :: r => (asLeaf c).bind fun l => (asLeaves r).map (l :: ·)
def leafOfValue : Value → Option (Leaf m)
  | .bool b => some (.bool b)
  | .int k n => some (.int k n)
  | .string s => some (.str s)
  | .slice none 0 0 => some (.sl (Fl.new m) [])
  | _ => none
def leavesOfValues : List Value → Option (List (Leaf m))
  | [] => some []
  | c :: r => (leafOfValue c).bind fun l => (leavesOfValues r).map (l :: ·)
def zeroLeaves (P : Program) (t : TypeId) : Option (List (Leaf m)) :=
  (P.info? t).bind fun i => i.zero.bind fun z => leavesOfValues z.cells.toList
def isAggT (P : Program) (t : TypeId) : Bool := match P.underlying t with | some (.struct _) | some (.array _ _) | none => true | _ => false
def sizeT (P : Program) (t : TypeId) : Option Nat := match P.underlying t with | some _ => (P.info? t).map (·.size) | none => none
def elemT (P : Program) (t : TypeId) : Option TypeId := match P.underlying t with | some (.slice e) => some e | _ => none
def fieldT (P : Program) (t : TypeId) (f : Nat) : Option (Nat × TypeId) :=
  match P.underlying t with
  | some (.struct fs) => (fs[f]?).map fun x => (x.offset, x.type)
  | _ => none

/-- A part of a row of cells as a value of type t. -/
def partL (P : Program) (t : TypeId) (cs : List (Leaf m)) (o : Nat) : Option (SV m) :=
  if isAggT P t then (sizeT P t).bind fun n => if o + n ≤ cs.length then some (.agg ((cs.drop o).take n)) else none
  else (cs[o]?).map .leaf

def intOp (op : BinOp) (k : IntKind) (a b : Int) : Option (Leaf m) :=
  match op with
  | .add => some (.int k (k.wrap (a + b)))
  | .sub => some (.int k (k.wrap (a - b)))
  | .mul => some (.int k (k.wrap (a * b)))
  | .quo => if b = 0 then none else some (.int k (k.wrap (a.tdiv b)))
  | .rem => if b = 0 then none else some (.int k (a.tmod b))
  | .eql => some (.bool (a == b))
  | .neq => some (.bool (a != b))
  | .lss => some (.bool (a < b))
  | .leq => some (.bool (a ≤ b))
  | .gtr => some (.bool (a > b))
  | .geq => some (.bool (a ≥ b))
  | .and => some (.int k (k.wrap (BitVec.ofInt k.bits a &&& BitVec.ofInt k.bits b).toNat))
  | .shl => if b < 0 then none else some (.int k (k.wrap (a * 2 ^ min b.toNat k.bits)))
  | .shr => if b < 0 then none else some (.int k (a.fdiv (2 ^ min b.toNat k.bits)))
  | _ => none
def strOp (op : BinOp) (x y : ByteArray) : Option (Leaf m) :=
  match op with
  | .add => if x.size + y.size ≤ 140737488355328 then some (.str (x ++ y)) else none
  | .eql => some (.bool (x.toList == y.toList))
  | .neq => some (.bool !(x.toList == y.toList))
  | .lss => some (.bool (Op.bytesLess x.toList y.toList))
  | .leq => some (.bool (Op.bytesLess x.toList y.toList || x.toList == y.toList))
  | .gtr => some (.bool !(Op.bytesLess x.toList y.toList || x.toList == y.toList))
  | .geq => some (.bool !(Op.bytesLess x.toList y.toList))
  | _ => none
def boolOp (op : BinOp) (x y : Bool) : Option (Leaf m) :=
  match op with
  | .eql => some (.bool (x == y))
  | .neq => some (.bool !(x == y))
  | _ => none
/-- Two cells of a plain type: alike? -/
def eqLeaf (P : Program) (t : TypeId) (a b : (Leaf m)) : Option Bool :=
  match P.underlying t, a, b with
  | some (.int _), .int k a, .int k' b => if k = k' then some (a == b) else none
  | some .bool, .bool a, .bool b => some (a == b)
  | some .string, .str a, .str b => some (a == b)
  | _, _, _ => none
/-- A struct whose cells are whole numbers, bools and strings, one a field, from cell j on. -/
def eqFieldsV (P : Program) : Nat → List Field → List (Leaf m) → List (Leaf m) → Option Bool
  | _, [], [], [] => some true
  | j, f :: fs, a :: x, b :: y => if f.offset == j && f.name != "_" then (eqLeaf P f.type a b).bind fun e => (eqFieldsV P (j + 1) fs x y).map (e && ·) else none
  | _, _, _, _ => none
def eqStructV (P : Program) (t : TypeId) (a b : List (Leaf m)) : Option Bool :=
  match P.underlying t with
  | some (.struct fs) => if P.stoodInHeld t || P.eqGuardType P.depth t then none else eqFieldsV P 0 fs.toList a b
  | _ => none
def isBoolT (P : Program) (t : TypeId) : Bool := match P.underlying t with | some .bool => true | _ => false

def isShift : BinOp → Bool | .shl | .shr => true | _ => false
def binV (P : Program) (op : BinOp) (t : TypeId) (x y : (SV m)) : Option (SV m) :=
  match x.drop, y.drop with
  | .leaf (.int k a), .leaf (.int k' b) =>
    if isShift op = true then (intOp op k a b).map .leaf
    else if k = k' then (intOp op k a b).map .leaf else none
  | .leaf (.str a), .leaf (.str b) => (strOp op a b).map .leaf
  | .leaf (.bool a), .leaf (.bool b) => if isBoolT P t then (boolOp op a b).map .leaf else none
  | .agg a, .agg b => match op with
    | .eql => (eqStructV P t a b).map fun e => .leaf (.bool e)
    | .neq => (eqStructV P t a b).map fun e => .leaf (.bool !e)
    | _ => none
  | _, _ => none

def unV (op : UnOp) (x : (SV m)) : Option (SV m) :=
  match op, x with
  | .not, .leaf (.bool b) => some (.leaf (.bool !b))
  | .neg, .leaf (.int k n) => some (.leaf (.int k (k.wrap (0 - n))))
  | _, _ => none

def bytesOfLeaves : List (List (Leaf m)) → Option (List UInt8)
  | [] => some []
  | [.int .u8 n] :: r => (bytesOfLeaves r).map (UInt8.ofNat n.toNat :: ·)
  | _ => none

def convV (P : Program) (src dst : TypeId) (x : (SV m)) : Option (SV m) :=
  match P.underlying src, P.underlying dst, x.drop with
  | some (.int _), some (.int k), .leaf (.int _ n) => some (.leaf (.int k (k.wrap n)))
  | some .string, some .string, .leaf (.str s) => some (.leaf (.str s))
  | some (.slice e), some .string, .leaf (.sl _ es) =>
    match P.underlying e with
    | some (.int .u8) => (bytesOfLeaves es).map fun l => .leaf (.str ⟨l.toArray⟩)
    | _ => none
  | some .string, some (.slice e), .leaf (.str s) =>
    match P.underlying e with
    | some (.int .u8) => some (.leaf (.sl (Fl.new m) (s.data.toList.map fun b => [.int .u8 b.toNat])))
    | _ => none
  | _, _, _ => none

def guarded {β : Type} (b : Bool) (x : Option β) : Option β := match b with | true => x | false => none
/-- Each element has that many cells. -/
def sized (n : Nat) (es : List (List (Leaf m))) : Bool := es.all fun e => e.length == n

def natOf : (SV m) → Option Nat
  | .leaf (.int _ n) => if 0 ≤ n then some n.toNat else none
  | _ => none
def optNat (ρ : Operand → (SV m)) : Option Operand → Option (Option Nat)
  | none => some none
  | some x => (natOf (ρ x)).map some

def sliceV (P : Program) (t : TypeId) (x : (SV m)) (lo hi : Option Nat) : Option (SV m) :=
  match P.underlying t, x.drop with
  | some .string, .leaf (.str b) =>
    if lo.getD 0 ≤ hi.getD b.size ∧ hi.getD b.size ≤ b.size then some (.leaf (.str (b.extract (lo.getD 0) (hi.getD b.size)))) else none
  | some (.slice _), .leaf (.sl c es) =>
    (elemT P t).bind fun e => (sizeT P e).bind fun z =>
      if lo.getD 0 ≤ hi.getD es.length ∧ hi.getD es.length ≤ es.length then guarded (sized z es) (some (.leaf (.sl c ((es.take (hi.getD es.length)).drop (lo.getD 0))))) else none
  | _, _ => none

def fieldAddrV (P : Program) (t : TypeId) (x : (SV m)) (f : Nat) : Option (SV m) :=
  (fieldT P t f).bind fun (o, ft) => (sizeT P ft).bind fun n => if n = 0 then none else
    match x with
    | .ptr b p => some (.ptr b (p + o))
    | .eptr c e p => some (.eptr c e (p + o))
    | _ => none

def indexAddrV (P : Program) (t : TypeId) (x i : (SV m)) : Option (SV m) :=
  match elemT P t, x.drop, i with
  | some e, .bsl b z lo k, .leaf (.int _ n) =>
    (sizeT P e).bind fun z' => if 0 ≤ n then if n < (k : Int) then if z' = z ∧ 0 < z then some (.ptr b ((lo + n.toNat) * z)) else none else none else none
  | some e, .leaf (.sl c es), .leaf (.int _ n) =>
    (sizeT P e).bind fun z =>
      if 0 ≤ n then if n < (es.length : Int) then guarded (sized z es) (some (.eptr c (es.getD n.toNat []) 0)) else none else none
  | _, _, _ => none
def indexV (P : Program) (t : TypeId) (x i : (SV m)) : Option (SV m) :=
  match P.underlying t, x, i with
  | some .string, .leaf (.str s), .leaf (.int _ n) =>
    if 0 ≤ n then if n < (s.size : Int) then some (.leaf (.int .u8 (s.data.toList.getD n.toNat 0).toNat)) else none else none
  | _, _, _ => none

def maxBytes : Nat := 140737488355328
def zeroByte (P : Program) (e : TypeId) : Bool := match P.info? e with
  | some i => (match i.zero with | some (.int .u8 n) => n == 0 && i.size == 1 && i.bytes == 1 | _ => false)
  | none => false
def zeroSized (P : Program) (e : TypeId) : Bool := match P.info? e with
  | some i => (match i.zero with | some z => z.cells.size == i.size | none => false)
  | none => false
def appendV (P : Program) (argTypes : Array TypeId) (x y : (SV m)) : Option (SV m) :=
  match argTypes.toList, x with
  | [t, u], .own eo es =>
    (elemT P t).bind fun e => (P.info? e).bind fun i => guarded (eo.getD e == e && decide (0 < i.size) && decide (0 < i.bytes) && zeroSized P e) <|
      match P.underlying u, y.drop with
      | some (.slice _), .leaf (.sl _ fs) => if t = u ∧ (es.length + fs.length) * i.bytes ≤ maxBytes then guarded (sized i.size fs) (some (.own (some e) (es ++ fs))) else none
      | some .string, .leaf (.str s) => if es.length + s.size ≤ maxBytes then guarded (zeroByte P e) (some (.own (some e) (es ++ s.data.toList.map fun b => [.int .u8 b.toNat]))) else none
      | _, _ => none
  | _, _ => none
def lenV (P : Program) (argTypes : Array TypeId) (x : (SV m)) : Option (SV m) :=
  match (argTypes[0]?).bind P.underlying, x.drop with
  | some .string, .leaf (.str s) => some (.leaf (.int .i64 s.size))
  | some (.slice _), .leaf (.sl _ es) => some (.leaf (.int .i64 es.length))
  | some (.slice _), .bsl _ _ _ n => some (.leaf (.int .i64 n))
  | _, _ => none
def minV (isMax : Bool) (x y : (SV m)) : Option (SV m) :=
  match x, y with
  | .leaf (.int k a), .leaf (.int k' b) => if k = k' then some (.leaf (.int k (if isMax then (if a < b then b else a) else (if b < a then b else a)))) else none
  | _, _ => none

/-! ### Calls: the boxes to which the arguments point go along -/
def SV.boxIds : (SV m) → List Nat
  | .ptr b _ => [b]
  | .bsl b _ _ _ => [b]
  | .fn _ caps => caps.flatMap fun | .ptr b _ => [b] | _ => []
  | _ => []
def addId (l : List Nat) (b : Nat) : List Nat := if l.contains b then l else l ++ [b]
def idsOf (args : List (SV m)) : List Nat := (args.flatMap SV.boxIds).foldl addId []
def placeIn (l : List Nat) (b : Nat) : Nat := l.findIdx (· == b)
def SV.ren (f : Nat → Nat) : (SV m) → (SV m)
  | .ptr b o => .ptr (f b) o
  | .bsl b z lo n => .bsl (f b) z lo n
  | .fn g caps => .fn g (caps.map fun | .ptr b o => .ptr (f b) o | v => v)
  | v => v
/-- Nothing that points. -/
def SV.flat : (SV m) → Bool
  | .leaf _ | .own _ _ | .agg _ | .nilface | .nilptr => true
  | _ => false
def SV.flatT : (SV m) → Bool
  | .tup vs => vs.all SV.flat
  | v => v.flat
/-- A value that may be handed to a call: data, a pointer to a box, a function with such. -/
def SV.handed : (SV m) → Bool
  | .ptr _ _ => true
  | .bsl _ _ _ _ => true
  | .fn _ caps => caps.all fun | .ptr _ _ => true | .leaf _ => true | _ => false
  | v => v.flat
def operandTmps (l : List Operand) : List Tmp := l.filterMap fun | .tmp t => some t | _ => none
def branch {β : Type} (b : Bool) (x y : Option β) : Option β := match b with | true => x | false => y
def onBool {β : Type} (v : (SV m)) (k : Bool → Option β) : Option β := match v with | .leaf (.bool b) => k b | _ => none
def onGuard {β : Type} (v : (SV m)) (want : Bool) (x y : Option β) : Option β :=
  match v with
  | .leaf (.bool b) => branch (b == want) x y
  | .skip => y
  | _ => none

section
variable {β : Type}
def callK (D : (Oracle m)) (s : (St m)) (pureHint : Bool) (f : FuncId) (args : List (SV m)) (dst : Option Tmp) (k : (St m) → Option β) : Option β :=
  guarded (args.all SV.handed) <|
    if pureHint then
      if idsOf args = [] then (D f args []).bind fun r => k (s.put dst r.1) else none
    else
      (boxesAt s.boxes (idsOf args)).bind fun cs => guarded (cs.all (·.all SV.flat)) <|
        (D f (args.map (SV.ren (placeIn (idsOf args)))) cs).bind fun r => k (({ s with boxes := putBoxes s.boxes (idsOf args) r.2 } : (St m)).put dst r.1)

/-- A struct's cells out of its fields' values. -/
def fillL (place : Nat → Option (Nat × TypeId)) (size : TypeId → Option Nat) (cs : List (Leaf m)) : List (Nat × (SV m)) → Option (List (Leaf m))
  | [] => some cs
  | (i, v) :: r => (place i).bind fun p => (size p.2).bind fun n => v.leaves.bind fun l =>
    if l.length = n ∧ p.1 + n ≤ cs.length then fillL place size (cs.take p.1 ++ l ++ cs.drop (p.1 + n)) r else none
def fieldsInfo (P : Program) (t : TypeId) : Bool := match P.underlying t with | some (.struct fs) => fs.toList.all fun f => (P.info? f.type).isSome | _ => false
def buildV (P : Program) (t : TypeId) (parts : List (Nat × (SV m))) : Option (SV m) :=
  guarded (fieldsInfo P t) <| (zeroLeaves P t).bind fun z => (fillL (fieldT P t) (sizeT P) z parts).map .agg
def elemsV (z : Nat) (k : Nat) : List (Nat × (SV m)) → Option (List (List (Leaf m)))
  | [] => some []
  | (i, v) :: r => if i = k then v.leaves.bind fun l => if l.length = z then (elemsV z (k + 1) r).map (l :: ·) else none else none
def buildSliceV (P : Program) (t : TypeId) (n : Nat) (parts : List (Nat × (SV m))) : Option (SV m) :=
  (elemT P t).bind fun e => (sizeT P e).bind fun z => guarded (zeroSized P e) <|
    if n = parts.length ∧ parts.length * z ≤ 16777216 ∧ 0 < z then (elemsV z 0 parts).map (.own (some e)) else none
def isFn : (SV m) → Bool
  | .fn _ caps => caps.all fun | .ptr _ _ => true | .leaf _ => true | _ => false
  | _ => false
def capOk : (SV m) → Bool
  | .ptr _ _ => true
  | .leaf _ => true
  | _ => false

/-- A nil slice is one of whatever type. -/
def retype (P : Program) (t : TypeId) : (SV m) → (SV m)
  | .own none [] => .own (elemT P t) []
  | v => v
/-- The element type of the slice that cell j of a variable of type t holds. -/
def cellT (P : Program) (t : TypeId) (j : Nat) : Option TypeId :=
  match P.underlying t with
  | some (.slice e) => some e
  | some (.struct fs) => (fs.toList.find? fun f => f.offset == j).bind fun f => elemT P f.type
  | _ => none
/-- The cells of a new variable. -/
def newCells (P : Program) (t : TypeId) : Nat → List (Leaf m) → List (SV m)
  | _, [] => []
  | j, l :: r => (match l with | .sl _ [] => .own (cellT P t j) [] | l => .leaf l) :: newCells P t (j + 1) r

/-- A new row of zeros: the cells of an element, how many elements; the cells. -/
def makeV (P : Program) (t : TypeId) (l c : (SV m)) : Option ((Nat × Nat) × List (SV m)) :=
  match l, c with
  | .leaf (.int _ a), .leaf (.int _ b) =>
    (elemT P t).bind fun e => (P.info? e).bind fun i => (zeroLeaves P e).bind fun ze =>
      if (0 ≤ a ∧ a = b) ∧ (0 < i.size ∧ a.toNat * i.bytes ≤ maxBytes ∧ a.toNat ≤ maxBytes) ∧ ze.length = i.size then some ((i.size, a.toNat), ((List.replicate a.toNat ze).flatten.map .leaf)) else none
  | _, _ => none
/-- One operation, and what goes on behind it. -/
def execK (P : Program) (D : (Oracle m)) (nt : Nat) (mv pu ta : Bool) (o : Oper) (s : (St m)) (k : (St m) → Option β) : Option β :=
  match o.op with
  | .move x | .assign x => if mv then k ((s.take x).put o.dst (retype P o.type (s.eval x))) else k (s.put o.dst (s.eval x).drop)
  | .pick c a b => onBool (s.eval c) fun c => branch c (k (s.put o.dst (s.eval a).drop)) (k (s.put o.dst (s.eval b).drop))
  | .box _ x => match o.dst with
    | some d => match s.box d with
      | none => guarded (decide (d < nt) && ((s.eval x).flat || isFn (s.eval x))) (k (((s.take x).setBox d (some (s.eval x).cells)).put o.dst (.ptr d 0)))
      | some _ => none
    | none => none
  | .alloc t => match o.dst with
    | some d => match s.box d with
      | none => guarded (decide (d < nt)) <| (zeroLeaves P t).bind fun z => k ((s.setBox d (some (newCells P t 0 z))).put o.dst (.ptr d 0))
      | some _ => none
    | none => none
  | .makeSlice t l c => match o.dst with
    | some d => match s.box d with
      | none => guarded (decide (d < nt)) <| (makeV P t (s.eval l) (s.eval c)).bind fun p => k ((s.setBox d (some p.2)).put o.dst (.bsl d p.1.1 0 p.1.2))
      | some _ => none
    | none => none
  | .build t parts => (buildV P t (parts.toList.map fun p => (p.1, s.eval p.2))).bind fun v => k (s.put o.dst v)
  | .buildSlice t n parts => (buildSliceV P t n (parts.toList.map fun p => (p.1, s.eval p.2))).bind fun v => k (s.put o.dst v)
  | .load t x => match s.eval x with
    | .eptr _ e p => (partL P t e p).bind fun v => k (s.put o.dst v)
    | .ptr b p => (s.box b).bind fun cs =>
      if isAggT P t then (sizeT P t).bind fun n => if p + n ≤ cs.length then (asLeaves ((cs.drop p).take n)).bind fun l => k (s.put o.dst (.agg l)) else none
      else (cs[p]?).bind fun c => if mv then k ((s.setBox b (some (cs.set p c.drop))).put o.dst c) else k (s.put o.dst c.drop)
    | _ => none
  | .store t x y => match s.eval x with
    | .eptr c e p => if (c.isSoft = true ∧ softAt e p = true) ∧ (s.eval y).plain = true ∧ sizeT P t = some 1 then k (s.put o.dst .skip) else none
    | .ptr b p => (s.box b).bind fun cs => (sizeT P t).bind fun n => guarded (s.eval y).flat <|
      if n = (s.eval y).cells.length ∧ p + n ≤ cs.length then k (((s.take y).setBox b (some (cs.take p ++ (s.eval y).cells ++ cs.drop (p + n)))).put o.dst .skip) else none
    | _ => none
  | .nilCheck x => match s.eval x with
    | .ptr b p => k (s.put o.dst (.ptr b p))
    | .eptr c e p => k (s.put o.dst (.eptr c e p))
    | _ => none
  | .binOp op t x y _ => (binV P op t (s.eval x) (s.eval y)).bind fun v => k (s.put o.dst v)
  | .unOp op _ x => (unV op (s.eval x)).bind fun v => k (s.put o.dst v)
  | .convert src dst x => (convV P src dst (s.eval x)).bind fun v => k (s.put o.dst v)
  | .makeFunc fn first caps => match fn with
    | .func f => if first.size = 0 then guarded ((caps.toList.map s.eval).all capOk) (k (s.put o.dst (.fn f (caps.toList.map s.eval)))) else none
    | _ => none
  | .slice t x lo hi mx => match mx with
    | none => (optNat s.eval lo).bind fun l => (optNat s.eval hi).bind fun h => (sliceV P t (s.eval x) l h).bind fun v => k (s.put o.dst v)
    | some _ => none
  | .fieldAddr t x f => (fieldAddrV P t (s.eval x) f).bind fun v => k (s.put o.dst v)
  | .field t x f => match s.eval x with
    | .agg cs => (fieldT P t f).bind fun p => (partL P p.2 cs p.1).bind fun v => k (s.put o.dst v)
    | _ => none
  | .indexAddr t x i => (indexAddrV P t (s.eval x) (s.eval i)).bind fun v => k (s.put o.dst v)
  | .index t x i => (indexV P t (s.eval x) (s.eval i)).bind fun v => k (s.put o.dst v)
  | .extract x i => match s.eval x with
    | .tup vs => (vs[i]?).bind fun v => k (s.put o.dst v.drop)
    | _ => none
  | .call c => match c.callee with
    | .builtin b => match b, c.args.toList with
      | .append, [x, y] => (appendV P c.argTypes (s.eval x) (s.eval y)).bind fun v => k ((s.take x).put o.dst v)
      | .len, [x] => (lenV P c.argTypes (s.eval x)).bind fun v => k (s.put o.dst v)
      | .max, [x, y] => (minV true (s.eval x) (s.eval y)).bind fun v => k (s.put o.dst v)
      | .min, [x, y] => (minV false (s.eval x) (s.eval y)).bind fun v => k (s.put o.dst v)
      | _, _ => none
    | .value g => match s.eval g with
      | .fn f caps => guarded (decide (operandTmps c.args.toList).Nodup) <| callK D (s.takes (takenL ta c.args.toList)) pu f (c.args.toList.map (argV ta s.eval) ++ caps) o.dst k
      | _ => none
    | .invoke _ _ => none
  | _ => none

def stepK (P : Program) (D : (Oracle m)) (nt : Nat) (mv pu ta : Bool) (ops : Array Oper) (o : Oper) (s : (St m)) (k : (St m) → Option β) : Option β :=
  match o.guard with
  | none => execK P D nt mv pu ta o s k
  | some (j, want) => match (ops[j]?).bind (·.dst) with
    | some t => onGuard (s.tmps.getD t .any) want (execK P D nt mv pu ta o s k) (k (s.put o.dst .skip))
    | none => none

/-- The operations in the text's order. -/
def stepsK (P : Program) (D : (Oracle m)) (nt : Nat) (mv pu ta : Nat → Bool) (ops : Array Oper) : List Oper → Nat → (St m) → ((St m) → Option β) → Option β
  | [], _, s, k => k s
  | o :: r, i, s, k => stepK P D nt (mv i) (pu i) (ta i) ops o s fun s' => stepsK P D nt mv pu ta ops r (i + 1) s' k
end

/-! ### What an order may turn: a look at the operations' text alone -/
def opTakes (mv : Bool) (o : Oper) : List Tmp :=
  match o.op with
  | .move x | .assign x => if mv then operandTmps [x] else []
  | .box _ x => operandTmps [x]
  | .store _ _ y => operandTmps [y]
  | .call c => match c.callee with
    | .builtin .append => operandTmps (c.args.toList.take 1)
    | .value _ => operandTmps c.args.toList
    | _ => []
  | _ => []
def opWrites (mv : Bool) (o : Oper) : List Tmp := o.dst.toList ++ opTakes mv o
/-- 0: leaves the boxes alone; 1: reads them; 2: writes them. -/
def opBoxes (mv pu ta : Bool) (o : Oper) : Nat :=
  match o.op with
  | .load _ _ => if mv then 2 else 1
  | .box _ _ | .alloc _ | .store _ _ _ | .makeSlice _ _ _ => 2
  | .call c => match c.callee with
    | .value _ => if pu then 0 else 2
    | _ => 0
  | _ => 0
def apartV (mv pu ta : Nat → Bool) (ops : Array Oper) (i j : Nat) (x y : Oper) : Bool :=
  (opWrites (mv i) x).all (fun t => !(y.looksAt ops).contains t && !(opWrites (mv j) y).contains t) &&
  (opWrites (mv j) y).all (fun t => !(x.looksAt ops).contains t) &&
  (opBoxes (mv i) (pu i) (ta i) x == 0 || opBoxes (mv j) (pu j) (ta j) y == 0 || (opBoxes (mv i) (pu i) (ta i) x == 1 && opBoxes (mv j) (pu j) (ta j) y == 1))
/-- From operation k on, in the text's order: each may come up when its turn is, and whatever else may still come up waits for it or is apart from it. -/
def okFrom (mv pu ta : Nat → Bool) (ops : Array Oper) : Nat → Nat → Array Bool → Bool
  | 0, _, listed => (Region.ready .any ops listed).isEmpty
  | n + 1, k, listed =>
    (Region.ready .any ops listed).contains k &&
    (List.range ops.size).all (fun j => j == k || listed.getD j true ||
      (match ops[k]?, ops[j]? with
       | some x, some y => y.after.any (fun e => Region.binds .any e && e.on == k) || apartV mv pu ta ops k j x y
       | _, _ => false)) &&
    okFrom mv pu ta ops n (k + 1) (listed.setIfInBounds k true)
def okRegion (mv pu ta : Nat → Bool) (ops : Array Oper) : Bool := okFrom mv pu ta ops ops.size 0 (Array.replicate ops.size false)

/-! ### Code -/
inductive Out (m : Bool) where
  | norm (s : (St m))
  | exit (id : Nat) (s : (St m))
  | ret (s : (St m))

def St.forget (s : (St m)) (ts bs : List Nat) : (St m) :=
  { tmps := ts.foldl (fun l t => l.set t .any) s.tmps, boxes := bs.foldl (fun l b => l.set b none) s.boxes }
/-- Nothing that is kept points into a box that goes. -/
def SV.noPtr (bs : List Nat) : (SV m) → Bool | .ptr b _ => !bs.contains b | .bsl b _ _ _ => !bs.contains b | _ => true
def SV.noBox (bs : List Nat) : (SV m) → Bool
  | .fn _ caps => caps.all (SV.noPtr bs)
  | .tup vs => vs.all (SV.noPtr bs)
  | v => v.noPtr bs
def St.noBox (s : (St m)) (bs : List Nat) : Bool := bs.isEmpty || (s.tmps.all (SV.noBox bs) && s.boxes.all fun | some cs => cs.all (SV.noBox bs) | none => true)
def St.again (s : (St m)) (ts bs : List Nat) : Option (St m) := guarded ((s.forget ts bs).noBox bs) (some (s.forget ts bs))

def SV.refs : (SV m) → List Nat
  | .fn _ caps => caps.flatMap SV.boxIds
  | .tup vs => vs.flatMap SV.boxIds
  | v => v.boxIds
def St.refs (s : (St m)) : List Nat := s.tmps.flatMap SV.refs ++ s.boxes.flatMap fun | some cs => cs.flatMap SV.refs | none => []
def St.tidy (s : (St m)) (ts : List Nat) : List Nat → (St m)
  | [] => s.forget ts []
  | b :: bs => (s.again ts ((b :: bs).filter fun b => !(s.forget ts []).refs.contains b)).getD (s.forget ts [])

/-- Behind a choice. -/
def St.dropC (s : (St m)) (d : Nat → List Nat × List Nat) : Operand → (St m)
  | .tmp t => s.tidy (d t).1 (d t).2
  | _ => s

/-- One round after the other; no more of them than that. -/
def rounds (body : (St m) → Option (Out m)) (again : (St m) → Option (St m)) : Nat → (St m) → Option (Out m)
  | 0, _ => none
  | n + 1, s => (again s).bind fun s => (body s).bind fun
    | .norm s' => rounds body again n s'
    | o => some o

/-- What goes on behind the first of two; behind a block; behind a function's text. -/
def seqK {β : Type} (f : (St m) → Option β) (k : (Out m) → Option β) : (Out m) → Option β
  | .norm s => f s
  | .exit id s => k (.exit id s)
  | .ret s => k (.ret s)
def blockK {β : Type} (id : Nat) (k : (Out m) → Option β) : (Out m) → Option β
  | .norm s => k (.norm s)
  | .exit id' s => if id' = id then k (.norm s) else k (.exit id' s)
  | .ret s => k (.ret s)

/-- loop: how a loop goes. blk: the block around, which names a loop. -/
def codeK {β : Type} (P : Program) (D : (Oracle m)) (H : Hints) (loop : ((St m) → Option (Out m)) → ((St m) → Option (St m)) → (St m) → Option (Out m)) : Nat → Code → (St m) → ((Out m) → Option β) → Option β
  | _, .skip, s, k => k (.norm s)
  | _, .region id ops draw, s, k => guarded (!draw || okRegion (H.mv id) (H.pure id) (H.take id) ops) (stepsK P D H.nt (H.mv id) (H.pure id) (H.take id) ops ops.toList 0 s fun s' => k (.norm (s'.tidy (H.after id) (H.afterB id))))
  | blk, .seq a b, s, k => codeK P D H loop blk a s (seqK (fun s' => codeK P D H loop blk b s' k) k)
  | blk, .cond c a b, s, k => onBool (s.eval c) fun t => branch t (codeK P D H loop blk a (s.dropC H.condA c) k) (codeK P D H loop blk b (s.dropC H.condB c) k)
  | _, .block id a, s, k => codeK P D H loop id a s (blockK id k)
  | blk, .loop a, s, k => (loop (fun s => codeK P D H loop blk a s some) (fun s => s.again (H.clear blk) (H.drop blk)) s).bind k
  | _, .exit id, s, k => k (.exit id s)
  | _, .ret, s, k => k (.ret s)
  | _, _, _, _ => none

def padTo (n : Nat) (l : List (SV m)) : List (SV m) := l ++ List.replicate (n - l.length) .any
/-- A row of cells in elements of z cells. -/
def chunks {α : Type} (z : Nat) : Nat → List α → List (List α)
  | 0, _ => []
  | n + 1, l => l.take z :: chunks z n (l.drop z)
/-- A slice over a box of the frame's own, when the frame is left. -/
def sealV (nt : Nat) (s : (St m)) : (SV m) → Option (SV m)
  | .bsl b z lo n => if b < nt ∧ lo = 0 then (s.box b).bind fun cs => if n * z ≤ cs.length ∧ 0 < z then (asLeaves (cs.take (n * z))).map fun l => .leaf (.sl (Fl.new m) (chunks z n l)) else none else none
  | v => some v
/-- What a result variable holds at the end. -/
def resOne (P : Program) (nt : Nat) (s : (St m)) : ResultVar → Option (SV m)
  | .tmp t => sealV nt s (s.tmps.getD t .any)
  | .cell a t => match s.tmps.getD a .any with
    | .ptr b p => (s.box b).bind fun cs =>
      if isAggT P t then (sizeT P t).bind fun n => if p + n ≤ cs.length then (asLeaves ((cs.drop p).take n)).map .agg else none
      else if b < nt then cs[p]? else none
    | _ => none
def resAll (P : Program) (nt : Nat) (s : (St m)) : List ResultVar → Option (List (SV m))
  | [] => some []
  | r :: rs => (resOne P nt s r).bind fun v => (resAll P nt s rs).map (v.drop :: ·)
def resultV (P : Program) (fn : Func) (s : (St m)) : Option (SV m) :=
  match fn.results.toList with
  | [r] => resOne P fn.ntmps s r
  | rs => (resAll P fn.ntmps s rs).map .tup

/-- The callee's frame: its own boxes have the numbers of their slots, those that came along the numbers behind. -/
def enterV (fn : Func) (args : List (SV m)) (boxes : List (List (SV m))) : (St m) :=
  { tmps := padTo fn.ntmps (args.map (SV.ren (fn.ntmps + ·))), boxes := List.replicate fn.ntmps none ++ boxes.map some }
def leaveV (P : Program) (fn : Func) (n : Nat) (s : (St m)) : Option ((SV m) × List (List (SV m))) :=
  (resultV P fn s).bind fun v => guarded v.flatT <|
    (boxesAt s.boxes ((List.range n).map (fn.ntmps + ·))).bind fun cs => guarded (cs.all (·.all SV.flat)) (some (v, cs))
def endK (P : Program) (fn : Func) (n : Nat) : (Out m) → Option ((SV m) × List (List (SV m)))
  | .norm s => leaveV P fn n s
  | .ret s => leaveV P fn n s
  | .exit _ _ => none
def runV (P : Program) (D : (Oracle m)) (H : FuncId → Hints) (loop : ((St m) → Option (Out m)) → ((St m) → Option (St m)) → (St m) → Option (Out m)) : (Oracle m) := fun f args boxes =>
  match P.funcs[f]? with
  | some fn => match fn.body with
    | some c => codeK P D ((H f).fit fn.ntmps) loop 0 c (enterV fn args boxes) (endK P fn boxes.length)
    | none => none
  | none => none

/-- Functions that are told otherwise than by their text. -/
abbrev Told (m : Bool) := FuncId → Option (List (SV m) → List (List (SV m)) → Option ((SV m) × List (List (SV m))))
def callN (P : Program) (T : (Told m)) (H : FuncId → Hints) : Nat → (Oracle m)
  | 0 => fun _ _ _ => none
  | n + 1 => fun f args boxes => match T f with
    | some t => t args boxes
    | none => runV P (callN P T H n) H (fun body again s => rounds body again n s) f args boxes

end Go.Vs
