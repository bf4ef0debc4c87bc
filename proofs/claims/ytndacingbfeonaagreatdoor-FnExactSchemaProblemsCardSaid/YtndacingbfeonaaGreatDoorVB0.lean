/- What the program's functions compute, read off their text by the shadow runner (VsCore, VsEff, VsOrder, VsRep, VsVal, VsVal2, VsVal3, VsInv); no condition. -/
import Derived.Orders
import Derived.Maps.AppendAt
import Derived.Laws.Tables
import Derived.Laws.BytesArg
import Derived.Extends
import Derived.Laws.StructEq
import Derived.Laws.Concat
import Derived.Laws.Cells
section
set_option linter.unusedVariables false
set_option linter.unusedSimpArgs false
namespace Go.Vs
variable {m : Bool}
inductive sH where
  | new | old | soft | tag (k : Nat) (f : Bool)
def Fl (m : Bool) : Type := match m with | true => sH | false => Unit
abbrev fP : Fl false := ()
abbrev eT : Fl true := sH.old
abbrev bA : Fl true := sH.new
abbrev jL : Fl true := sH.soft
def Fl.new (m : Bool) : Fl m := match m with | true => sH.new | false => ()
def Fl.isSoft {m : Bool} (c : Fl m) : Bool := match m, c with | true, sH.soft => true | _, _ => false
def Fl.later {m : Bool} (c : Fl m) (lo : Option Nat) : Fl m := match lo with
  | none => c
  | some _ => match m, c with | true, sH.new => sH.old | true, sH.tag k _ => sH.tag k false | true, sH.old => sH.old | true, sH.soft => sH.soft | false, _ => ()
theorem Fl.later_soft {m : Bool} (c : Fl m) (lo : Option Nat) : (c.later lo).isSoft = c.isSoft := by
  cases lo with
  | none => rfl
  | some k => cases m with
    | false => cases c; rfl
    | true => cases c <;> rfl
theorem Fl.soft_new (m : Bool) : (Fl.new m).isSoft = false := by cases m <;> rfl
def Fl.kept (m : Bool) : Fl m := match m with | true => sH.old | false => ()
theorem Fl.soft_kept (m : Bool) : (Fl.kept m).isSoft = false := by cases m <;> rfl
instance : Inhabited (Fl m) := ⟨Fl.new m⟩
inductive aF (m : Bool) where
  | bool (b : Bool)
  | int (k : IntKind) (n : Int)
  | str (s : ByteArray)
  | unk
  | sl (c : Fl m) (es : List (List (aF m)))
  | nl (e : Option TypeId)
  deriving Inhabited
inductive SV (m : Bool) where
  | any
  | skip
  | leaf (l : (aF m))
  | own (e : Option TypeId) (es : List (List (aF m)))
  | agg (cs : List (aF m))
  | ptr (b o : Nat)
  | eptr (c : Fl m) (e : List (aF m)) (o : Nat)
  | bsl (b z lo n : Nat)
  | nilptr
  | nilface
  | fn (f : FuncId) (caps : List (SV m))
  | tup (vs : List (SV m))
  deriving Inhabited
def SV.drop : (SV m) → (SV m)
  | .own _ es => .leaf (.sl (Fl.new m) es)
  | v => v
structure St (m : Bool) where
  tmps : List (SV m)
  boxes : List (Option (List (SV m)))
  deriving Inhabited
structure gZ where
  nt : Nat
  mv : Nat → Nat → Bool
  pure : Nat → Nat → Bool
  take : Nat → Nat → Bool
  clear : Nat → List Nat
  drop : Nat → List Nat
  after : Nat → List Nat
  afterB : Nat → List Nat
  condA : Nat → List Nat × List Nat
  condB : Nat → List Nat × List Nat
  fz : Nat → List Nat
def gZ.fit (h : gZ) (n : Nat) : gZ := { h with nt := n }
abbrev cD (m : Bool) := FuncId → List (SV m) → List (List (SV m)) → Option ((SV m) × List (List (SV m)))
def aKs : Value → (SV m)
  | .bool b => .leaf (.bool b)
  | .int k n => .leaf (.int k n)
  | .string s => .leaf (.str s)
  | .slice none 0 0 => .own none []
  | .pointer none => .nilptr
  | .nilIface => .nilface
  | _ => .any
def St.eval (s : (St m)) : Operand → (SV m)
  | .tmp t => s.tmps.getD t .any
  | .const v => aKs v
  | .global _ => .any
  | .func f => .fn f []
def St.put (s : (St m)) (dst : Option Tmp) (v : (SV m)) : (St m) :=
  match dst with
  | some d => { s with tmps := s.tmps.set d v }
  | none => s
def SV.plain : (SV m) → Bool | .leaf (.int _ _) | .leaf (.bool _) | .leaf (.str _) => true | _ => false
def fL (e : List (aF m)) (p : Nat) : Bool := match e[p]? with | some .unk => true | _ => false
def lX (ρ : Operand → (SV m)) : Operand → List (Tmp × (SV m))
  | .tmp t => [(t, (ρ (.tmp t)).drop)]
  | _ => []
def eU (l : List (SV m)) (us : List (Tmp × (SV m))) : List (SV m) := us.foldl (fun l p => l.set p.1 p.2) l
def St.takes (s : (St m)) (xs : List Operand) : (St m) := { s with tmps := eU s.tmps (xs.flatMap (lX s.eval)) }
def wA (ta : Bool) (ρ : Operand → (SV m)) (x : Operand) : (SV m) := match ta with | true => ρ x | false => (ρ x).drop
def aBQ (ta : Bool) (xs : List Operand) : List Operand := match ta with | true => xs | false => []
def St.take (s : (St m)) (x : Operand) : (St m) := s.takes [x]
abbrev iC (m : Bool) := List (Option (List (SV m)))
def bP (bs : (iC m)) (b : Nat) : Option (List (SV m)) := bs.getD b none
def xG (bs : (iC m)) : List Nat → Option (List (List (SV m)))
  | [] => some []
  | b :: r => (bP bs b).bind fun c => (xG bs r).map (c :: ·)
def jI (bs : (iC m)) : List Nat → List (List (SV m)) → (iC m)
  | b :: r, c :: cs => jI (bs.set b (some c)) r cs
  | _, _ => bs
def St.box (s : (St m)) (b : Nat) : Option (List (SV m)) := bP s.boxes b
def St.setBox (s : (St m)) (b : Nat) (cs : Option (List (SV m))) : (St m) := { s with boxes := s.boxes.set b cs }
def SV.leaves : (SV m) → Option (List (aF m))
  | .leaf l => some [l]
  | .own _ es => some [.sl (Fl.new m) es]
  | .agg cs => some cs
  | _ => none
def cellOf : (aF m) → (SV m)
  | .nl e => .own e []
  | l => .leaf l
def SV.cells : (SV m) → List (SV m)
  | .agg cs => cs.map cellOf
  | v => [v]
def asLeaf : (SV m) → Option (aF m)
  | .leaf l => some l
  | .own _ es => some (.sl (Fl.new m) es)
  | _ => none
def dV : List (SV m) → Option (List (aF m))
  | [] => some []
  | c :: r => (asLeaf c).bind fun l => (dV r).map (l :: ·)
def aCG : Value → Option (aF m)
  | .bool b => some (.bool b)
  | .int k n => some (.int k n)
  | .string s => some (.str s)
  | .slice none 0 0 => some (.sl (Fl.new m) [])
  | _ => none
def gU : List Value → Option (List (aF m))
  | [] => some []
  | c :: r => (aCG c).bind fun l => (gU r).map (l :: ·)
def sL (P : Program) (t : TypeId) : Option (List (aF m)) :=
  (P.info? t).bind fun i => i.zero.bind fun z => gU z.cells.toList
def rL (P : Program) (t : TypeId) : Bool := match P.underlying t with | some (.struct _) | some (.array _ _) | none => true | _ => false
def eX (P : Program) (t : TypeId) : Option Nat := match P.underlying t with | some _ => (P.info? t).map (·.size) | none => none
def aDO (P : Program) (t : TypeId) : Option TypeId := match P.underlying t with | some (.slice e) => some e | _ => none
def aEI (P : Program) (t : TypeId) (f : Nat) : Option (Nat × TypeId) :=
  match P.underlying t with
  | some (.struct fs) => (fs[f]?).map fun x => (x.offset, x.type)
  | _ => none
def aE9 (P : Program) (t : TypeId) (cs : List (aF m)) (o : Nat) : Option (SV m) :=
  if rL P t then (eX P t).bind fun n => if o + n ≤ cs.length then some (.agg ((cs.drop o).take n)) else none
  else (cs[o]?).map .leaf
def aE8 (op : BinOp) (k : IntKind) (a b : Int) : Option (aF m) :=
  match op with
  | .add => some (.int k (k.wrap (a + b)))
  | .sub => some (.int k (k.wrap (a - b)))
  | .mul => some (.int k (k.wrap (a * b)))
  | .quo => if b = 0 then none else some (.int k (k.wrap (a.tdiv b)))
  | .rem => if b = 0 then none else some (.int k (a.tmod b))
  | .eql => some (.bool (a == b))
  | .neq => some (.bool (a != b))
  | .lss => some (.bool (a < b))
  | .leq => some (.bool (a ≤ b))
  | .gtr => some (.bool (a > b))
  | .geq => some (.bool (a ≥ b))
  | .and => some (.int k (k.wrap (BitVec.ofInt k.bits a &&& BitVec.ofInt k.bits b).toNat))
  | .shl => if b < 0 then none else some (.int k (k.wrap (a * 2 ^ min b.toNat k.bits)))
  | .shr => if b < 0 then none else some (.int k (a.fdiv (2 ^ min b.toNat k.bits)))
  | _ => none
def aPn (op : BinOp) (x y : ByteArray) : Option (aF m) :=
  match op with
  | .add => if x.size + y.size ≤ 140737488355328 then some (.str (x ++ y)) else none
  | .eql => some (.bool (x.toList == y.toList))
  | .neq => some (.bool !(x.toList == y.toList))
  | .lss => some (.bool (Op.bytesLess x.toList y.toList))
  | .leq => some (.bool (Op.bytesLess x.toList y.toList || x.toList == y.toList))
  | .gtr => some (.bool !(Op.bytesLess x.toList y.toList || x.toList == y.toList))
  | .geq => some (.bool !(Op.bytesLess x.toList y.toList))
  | _ => none
def aSt (op : BinOp) (x y : Bool) : Option (aF m) :=
  match op with
  | .eql => some (.bool (x == y))
  | .neq => some (.bool !(x == y))
  | _ => none
def aRH (P : Program) (t : TypeId) (a b : (aF m)) : Option Bool :=
  match P.underlying t, a, b with
  | some (.int _), .int k a, .int k' b => if k = k' then some (a == b) else none
  | some .bool, .bool a, .bool b => some (a == b)
  | some .string, .str a, .str b => some (a == b)
  | _, _, _ => none
def wR (P : Program) : Nat → List Field → List (aF m) → List (aF m) → Option Bool
  | _, [], [], [] => some true
  | j, f :: fs, a :: x, b :: y => if f.offset == j && f.name != "_" then (aRH P f.type a b).bind fun e => (wR P (j + 1) fs x y).map (e && ·) else none
  | _, _, _, _ => none
def aHg (P : Program) (t : TypeId) (a b : List (aF m)) : Option Bool :=
  match P.underlying t with
  | some (.struct fs) => if P.stoodInHeld t || P.eqGuardType P.depth t then none else wR P 0 fs.toList a b
  | _ => none
def aSV (P : Program) (t : TypeId) : Bool := match P.underlying t with | some .bool => true | _ => false
def aNa : BinOp → Bool | .shl | .shr => true | _ => false
def aPN (P : Program) (op : BinOp) (t : TypeId) (x y : (SV m)) : Option (SV m) :=
  match x.drop, y.drop with
  | .leaf (.int k a), .leaf (.int k' b) =>
    if aNa op = true then (aE8 op k a b).map .leaf
    else if k = k' then (aE8 op k a b).map .leaf else none
  | .leaf (.str a), .leaf (.str b) => (aPn op a b).map .leaf
  | .leaf (.bool a), .leaf (.bool b) => if aSV P t then (aSt op a b).map .leaf else none
  | .agg a, .agg b => match op with
    | .eql => (aHg P t a b).map fun e => .leaf (.bool e)
    | .neq => (aHg P t a b).map fun e => .leaf (.bool !e)
    | _ => none
  | _, _ => none
def unV (op : UnOp) (x : (SV m)) : Option (SV m) :=
  match op, x with
  | .not, .leaf (.bool b) => some (.leaf (.bool !b))
  | .neg, .leaf (.int k n) => some (.leaf (.int k (k.wrap (0 - n))))
  | _, _ => none
def pA : List (List (aF m)) → Option (List UInt8)
  | [] => some []
  | [.int .u8 n] :: r => (pA r).map (UInt8.ofNat n.toNat :: ·)
  | _ => none
def aLZ (P : Program) (src dst : TypeId) (x : (SV m)) : Option (SV m) :=
  match P.underlying src, P.underlying dst, x.drop with
  | some (.int _), some (.int k), .leaf (.int _ n) => some (.leaf (.int k (k.wrap n)))
  | some .string, some .string, .leaf (.str s) => some (.leaf (.str s))
  | some (.slice e), some .string, .leaf (.sl _ es) =>
    match P.underlying e with
    | some (.int .u8) => (pA es).map fun l => .leaf (.str ⟨l.toArray⟩)
    | _ => none
  | some .string, some (.slice e), .leaf (.str s) =>
    match P.underlying e with
    | some (.int .u8) => some (.leaf (.sl (Fl.kept m) (s.data.toList.map fun b => [.int .u8 b.toNat])))
    | _ => none
  | _, _, _ => none
def aB {β : Type} (b : Bool) (x : Option β) : Option β := match b with | true => x | false => none
def sized (n : Nat) (es : List (List (aF m))) : Bool := es.all fun e => e.length == n
def aSI : (SV m) → Option Nat
  | .leaf (.int _ n) => if 0 ≤ n then some n.toNat else none
  | _ => none
def xM (ρ : Operand → (SV m)) : Option Operand → Option (Option Nat)
  | none => some none
  | some x => (aSI (ρ x)).map some
def aFM (P : Program) (t : TypeId) (x : (SV m)) (lo hi : Option Nat) : Option (SV m) :=
  match P.underlying t, x.drop with
  | some .string, .leaf (.str b) =>
    if lo.getD 0 ≤ hi.getD b.size ∧ hi.getD b.size ≤ b.size then some (.leaf (.str (b.extract (lo.getD 0) (hi.getD b.size)))) else none
  | some (.slice _), .leaf (.sl c es) =>
    (aDO P t).bind fun e => (eX P e).bind fun z =>
      if lo.getD 0 ≤ hi.getD es.length ∧ hi.getD es.length ≤ es.length then aB (sized z es) (some (.leaf (.sl (c.later lo) ((es.take (hi.getD es.length)).drop (lo.getD 0))))) else none
  | _, _ => none
def aBA (P : Program) (t : TypeId) (x : (SV m)) (f : Nat) : Option (SV m) :=
  (aEI P t f).bind fun (o, ft) => (eX P ft).bind fun n => if n = 0 then none else
    match x with
    | .ptr b p => some (.ptr b (p + o))
    | .eptr c e p => some (.eptr c e (p + o))
    | _ => none
def sN (P : Program) (t : TypeId) (x i : (SV m)) : Option (SV m) :=
  match aDO P t, x.drop, i with
  | some e, .bsl b z lo k, .leaf (.int _ n) =>
    (eX P e).bind fun z' => if 0 ≤ n then if n < (k : Int) then if z' = z ∧ 0 < z then some (.ptr b ((lo + n.toNat) * z)) else none else none else none
  | some e, .leaf (.sl c es), .leaf (.int _ n) =>
    (eX P e).bind fun z =>
      if 0 ≤ n then if n < (es.length : Int) then aB (sized z es) (some (.eptr c (es.getD n.toNat []) 0)) else none else none
  | _, _, _ => none
def aIN (P : Program) (t : TypeId) (x i : (SV m)) : Option (SV m) :=
  match P.underlying t, x, i with
  | some .string, .leaf (.str s), .leaf (.int _ n) =>
    if 0 ≤ n then if n < (s.size : Int) then some (.leaf (.int .u8 (s.data.toList.getD n.toNat 0).toNat)) else none else none
  | _, _, _ => none
def aO : Nat := 140737488355328
def aG0 (P : Program) (e : TypeId) : Bool := match P.info? e with
  | some i => (match i.zero with | some (.int .u8 n) => n == 0 && i.size == 1 && i.bytes == 1 | _ => false)
  | none => false
def aBt (P : Program) (e : TypeId) : Bool := match P.info? e with
  | some i => (match i.zero with | some z => z.cells.size == i.size | none => false)
  | none => false
def aG5 (P : Program) (argTypes : Array TypeId) (x y : (SV m)) : Option (SV m) :=
  match argTypes.toList, x with
  | [t, u], .own eo es =>
    (aDO P t).bind fun e => (P.info? e).bind fun i => aB (eo.getD e == e && decide (0 < i.size) && decide (0 < i.bytes) && aBt P e) <|
      match P.underlying u, y.drop with
      | some (.slice _), .leaf (.sl _ fs) => if t = u ∧ (es.length + fs.length) * i.bytes ≤ aO then aB (sized i.size fs) (some (.own (some e) (es ++ fs))) else none
      | some .string, .leaf (.str s) => if es.length + s.size ≤ aO then aB (aG0 P e) (some (.own (some e) (es ++ s.data.toList.map fun b => [.int .u8 b.toNat]))) else none
      | _, _ => none
  | _, _ => none
def aUb (P : Program) (argTypes : Array TypeId) (x : (SV m)) : Option (SV m) :=
  match (argTypes[0]?).bind P.underlying, x.drop with
  | some .string, .leaf (.str s) => some (.leaf (.int .i64 s.size))
  | some (.slice _), .leaf (.sl _ es) => some (.leaf (.int .i64 es.length))
  | some (.slice _), .bsl _ _ _ n => some (.leaf (.int .i64 n))
  | _, _ => none
def aRr (isMax : Bool) (x y : (SV m)) : Option (SV m) :=
  match x, y with
  | .leaf (.int k a), .leaf (.int k' b) => if k = k' then some (.leaf (.int k (if isMax then (if a < b then b else a) else (if b < a then b else a)))) else none
  | _, _ => none
def SV.boxIds : (SV m) → List Nat
  | .ptr b _ => [b]
  | .bsl b _ _ _ => [b]
  | .fn _ caps => caps.flatMap fun | .ptr b _ => [b] | _ => []
  | _ => []
def aLW (l : List Nat) (b : Nat) : List Nat := if l.contains b then l else l ++ [b]
def nF (args : List (SV m)) : List Nat := (args.flatMap SV.boxIds).foldl aLW []
def iM (l : List Nat) (b : Nat) : Nat := l.findIdx (· == b)
def SV.ren (f : Nat → Nat) : (SV m) → (SV m)
  | .ptr b o => .ptr (f b) o
  | .bsl b z lo n => .bsl (f b) z lo n
  | .fn g caps => .fn g (caps.map fun | .ptr b o => .ptr (f b) o | v => v)
  | v => v
def SV.data : (SV m) → Bool
  | .leaf _ | .own _ _ | .agg _ | .nilface | .nilptr => true
  | _ => false
def SV.flat : (SV m) → Bool
  | .leaf _ | .own _ _ | .agg _ | .nilface | .nilptr | .any => true
  | _ => false
def SV.flatT : (SV m) → Bool
  | .tup vs => vs.all SV.flat
  | v => v.flat
def SV.handed : (SV m) → Bool
  | .ptr _ _ => true
  | .bsl _ _ _ _ => true
  | .eptr _ _ _ => true
  | .any => true
  | .fn _ caps => caps.all fun | .ptr _ _ => true | .leaf _ => true | .eptr _ _ _ => true | .any => true | _ => false
  | v => v.data
def cW (l : List Operand) : List Tmp := l.filterMap fun | .tmp t => some t | _ => none
def aA {β : Type} (b : Bool) (x y : Option β) : Option β := match b with | true => x | false => y
def qQ {β : Type} (v : (SV m)) (k : Bool → Option β) : Option β := match v with | .leaf (.bool b) => k b | _ => none
def rV {β : Type} (v : (SV m)) (want : Bool) (x y : Option β) : Option β :=
  match v with
  | .leaf (.bool b) => aA (b == want) x y
  | .skip => y
  | _ => none
section
variable {β : Type}
def aSP (D : (cD m)) (s : (St m)) (pureHint : Bool) (f : FuncId) (args : List (SV m)) (dst : Option Tmp) (k : (St m) → Option β) : Option β :=
  aB (args.all SV.handed) <|
    if pureHint then
      if nF args = [] then (D f args []).bind fun r => k (s.put dst r.1) else none
    else
      (xG s.boxes (nF args)).bind fun cs => aB (cs.all (·.all SV.flat)) <|
        (D f (args.map (SV.ren (iM (nF args)))) cs).bind fun r => k (({ s with boxes := jI s.boxes (nF args) r.2 } : (St m)).put dst r.1)
def aQ4 (place : Nat → Option (Nat × TypeId)) (size : TypeId → Option Nat) (cs : List (aF m)) : List (Nat × (SV m)) → Option (List (aF m))
  | [] => some cs
  | (i, v) :: r => (place i).bind fun p => (size p.2).bind fun n => v.leaves.bind fun l =>
    if l.length = n ∧ p.1 + n ≤ cs.length then aQ4 place size (cs.take p.1 ++ l ++ cs.drop (p.1 + n)) r else none
def aVQ (P : Program) (t : TypeId) (j : Nat) : Option TypeId :=
  match P.underlying t with
  | some (.slice e) => some e
  | some (.struct fs) => (fs.toList.find? fun f => f.offset == j).bind fun f => aDO P f.type
  | _ => none
def aPS (P : Program) (t : TypeId) : Nat → List (aF m) → List (aF m)
  | _, [] => []
  | j, l :: r => (match l with | .sl _ [] => .nl (aVQ P t j) | l => l) :: aPS P t (j + 1) r
def aIZ (P : Program) (t : TypeId) : Bool := match P.underlying t with | some (.struct fs) => fs.toList.all fun f => (P.info? f.type).isSome | _ => false
def aOe (P : Program) (t : TypeId) (ow : Bool) (parts : List (Nat × (SV m))) : Option (SV m) :=
  aB (aIZ P t) <| (sL P t).bind fun z => (aQ4 (aEI P t) (eX P) (match ow with | true => aPS P t 0 z | false => z) parts).map .agg
def aNr (z : Nat) (k : Nat) : List (Nat × (SV m)) → Option (List (List (aF m)))
  | [] => some []
  | (i, v) :: r => if i = k then v.leaves.bind fun l => if l.length = z then (aNr z (k + 1) r).map (l :: ·) else none else none
def aAK (P : Program) (t : TypeId) (n : Nat) (parts : List (Nat × (SV m))) : Option (SV m) :=
  (aDO P t).bind fun e => (eX P e).bind fun z => aB (aBt P e) <|
    if n = parts.length ∧ parts.length * z ≤ 16777216 ∧ 0 < z then (aNr z 0 parts).map (.own (some e)) else none
def aMw : (SV m) → Bool
  | .fn _ caps => caps.all fun | .ptr _ _ => true | .leaf _ => true | _ => false
  | _ => false
def aRB : (SV m) → Bool
  | .ptr _ _ => true
  | .eptr _ _ _ => true
  | .leaf _ => true
  | _ => false
def aLq (P : Program) (t : TypeId) : (SV m) → (SV m)
  | .own none [] => .own (aDO P t) []
  | v => v
def rF (P : Program) (t : TypeId) : Nat → List (aF m) → List (SV m)
  | _, [] => []
  | j, l :: r => (match l with | .sl _ [] => .own (aVQ P t j) [] | l => .leaf l) :: rF P t (j + 1) r
def aPD (P : Program) (t : TypeId) (l c : (SV m)) : Option ((Nat × Nat) × List (SV m)) :=
  match l, c with
  | .leaf (.int _ a), .leaf (.int _ b) =>
    (aDO P t).bind fun e => (P.info? e).bind fun i => (sL P e).bind fun ze =>
      if (0 ≤ a ∧ a = b) ∧ (0 < i.size ∧ a.toNat * i.bytes ≤ aO ∧ a.toNat ≤ aO) ∧ ze.length = i.size then some ((i.size, a.toNat), ((List.replicate a.toNat ze).flatten.map .leaf)) else none
  | _, _ => none
def gR (P : Program) (D : (cD m)) (nt : Nat) (mv pu ta : Bool) (o : Oper) (s : (St m)) (k : (St m) → Option β) : Option β :=
  match o.op with
  | .move x | .assign x => if mv then k ((s.take x).put o.dst (aLq P o.type (s.eval x))) else k (s.put o.dst (s.eval x).drop)
  | .pick c a b => qQ (s.eval c) fun c => aA c (k (s.put o.dst (s.eval a).drop)) (k (s.put o.dst (s.eval b).drop))
  | .box _ x => match o.dst with
    | some d => match s.box d with
      | none => aB (decide (d < nt) && ((s.eval x).data || aMw (s.eval x))) (k (((s.take x).setBox d (some (s.eval x).cells)).put o.dst (.ptr d 0)))
      | some _ => none
    | none => none
  | .alloc t => match o.dst with
    | some d => match s.box d with
      | none => aB (decide (d < nt)) <| (sL P t).bind fun z => k ((s.setBox d (some (rF P t 0 z))).put o.dst (.ptr d 0))
      | some _ => none
    | none => none
  | .makeSlice t l c => match o.dst with
    | some d => match s.box d with
      | none => aB (decide (d < nt)) <| (aPD P t (s.eval l) (s.eval c)).bind fun p => k ((s.setBox d (some p.2)).put o.dst (.bsl d p.1.1 0 p.1.2))
      | some _ => none
    | none => none
  | .build t parts => (aOe P t mv (parts.toList.map fun p => (p.1, s.eval p.2))).bind fun v => k (s.put o.dst v)
  | .buildSlice t n parts => (aAK P t n (parts.toList.map fun p => (p.1, s.eval p.2))).bind fun v => k (s.put o.dst v)
  | .load t x => match s.eval x with
    | .eptr _ e p => (aE9 P t e p).bind fun v => k (s.put o.dst v)
    | .ptr b p => (s.box b).bind fun cs =>
      if rL P t then (eX P t).bind fun n => if p + n ≤ cs.length then (dV ((cs.drop p).take n)).bind fun l => k (s.put o.dst (.agg l)) else none
      else (cs[p]?).bind fun c => if mv then k ((s.setBox b (some (cs.set p c.drop))).put o.dst c) else k (s.put o.dst c.drop)
    | _ => none
  | .store t x y => match s.eval x with
    | .eptr c e p => if (c.isSoft = true ∧ fL e p = true) ∧ (s.eval y).plain = true ∧ eX P t = some 1 then k (s.put o.dst .skip) else none
    | .ptr b p => (s.box b).bind fun cs => (eX P t).bind fun n => aB (s.eval y).data <|
      if n = (s.eval y).cells.length ∧ p + n ≤ cs.length then k (((s.take y).setBox b (some (cs.take p ++ (s.eval y).cells ++ cs.drop (p + n)))).put o.dst .skip) else none
    | _ => none
  | .nilCheck x => match s.eval x with
    | .ptr b p => k (s.put o.dst (.ptr b p))
    | .eptr c e p => k (s.put o.dst (.eptr c e p))
    | _ => none
  | .binOp op t x y _ => (aPN P op t (s.eval x) (s.eval y)).bind fun v => k (s.put o.dst v)
  | .unOp op _ x => (unV op (s.eval x)).bind fun v => k (s.put o.dst v)
  | .convert src dst x => (aLZ P src dst (s.eval x)).bind fun v => k (s.put o.dst v)
  | .makeFunc fn first caps => match fn with
    | .func f => if first.size = 0 then aB ((caps.toList.map s.eval).all aRB) (k (s.put o.dst (.fn f (caps.toList.map s.eval)))) else none
    | _ => none
  | .slice t x lo hi mx => match mx with
    | none => (xM s.eval lo).bind fun l => (xM s.eval hi).bind fun h => (aFM P t (s.eval x) l h).bind fun v => k (s.put o.dst v)
    | some _ => none
  | .fieldAddr t x f => (aBA P t (s.eval x) f).bind fun v => k (s.put o.dst v)
  | .field t x f => match s.eval x with
    | .agg cs => (aEI P t f).bind fun p => (aE9 P p.2 cs p.1).bind fun v => k (s.put o.dst v)
    | _ => none
  | .indexAddr t x i => (sN P t (s.eval x) (s.eval i)).bind fun v => k (s.put o.dst v)
  | .index t x i => (aIN P t (s.eval x) (s.eval i)).bind fun v => k (s.put o.dst v)
  | .extract x i => match s.eval x with
    | .tup vs => (vs[i]?).bind fun v => k (s.put o.dst v.drop)
    | _ => none
  | .call c => match c.callee with
    | .builtin b => match b, c.args.toList with
      | .append, [x, y] => (aG5 P c.argTypes (s.eval x) (s.eval y)).bind fun v => k ((s.take x).put o.dst v)
      | .len, [x] => (aUb P c.argTypes (s.eval x)).bind fun v => k (s.put o.dst v)
      | .max, [x, y] => (aRr true (s.eval x) (s.eval y)).bind fun v => k (s.put o.dst v)
      | .min, [x, y] => (aRr false (s.eval x) (s.eval y)).bind fun v => k (s.put o.dst v)
      | _, _ => none
    | .value g => match s.eval g with
      | .fn f caps => aB (decide (cW c.args.toList).Nodup) <| aSP D (s.takes (aBQ ta c.args.toList)) pu f (c.args.toList.map (wA ta s.eval) ++ caps) o.dst k
      | _ => none
    | .invoke _ _ => none
  | _ => none
def aQ9 (P : Program) (D : (cD m)) (nt : Nat) (mv pu ta : Bool) (ops : Array Oper) (o : Oper) (s : (St m)) (k : (St m) → Option β) : Option β :=
  match o.guard with
  | none => gR P D nt mv pu ta o s k
  | some (j, want) => match (ops[j]?).bind (·.dst) with
    | some t => rV (s.tmps.getD t .any) want (gR P D nt mv pu ta o s k) (k (s.put o.dst .skip))
    | none => none
def mJ (P : Program) (D : (cD m)) (nt : Nat) (mv pu ta : Nat → Bool) (ops : Array Oper) : List Oper → Nat → (St m) → ((St m) → Option β) → Option β
  | [], _, s, k => k s
  | o :: r, i, s, k => aQ9 P D nt (mv i) (pu i) (ta i) ops o s fun s' => mJ P D nt mv pu ta ops r (i + 1) s' k
end
def aD8 (mv : Bool) (o : Oper) : List Tmp :=
  match o.op with
  | .move x | .assign x => if mv then cW [x] else []
  | .box _ x => cW [x]
  | .store _ _ y => cW [y]
  | .call c => match c.callee with
    | .builtin .append => cW (c.args.toList.take 1)
    | .value _ => cW c.args.toList
    | _ => []
  | _ => []
def jT (mv : Bool) (o : Oper) : List Tmp := o.dst.toList ++ aD8 mv o
def jC (mv pu ta : Bool) (o : Oper) : Nat :=
  match o.op with
  | .load _ _ => if mv then 2 else 1
  | .box _ _ | .alloc _ | .store _ _ _ | .makeSlice _ _ _ => 2
  | .call c => match c.callee with
    | .value _ => if pu then 0 else 2
    | _ => 0
  | _ => 0
def aQt (o : Oper) : Bool := match o.op with | .box _ _ | .alloc _ | .makeSlice _ _ _ => true | _ => false
def aQb (mv pu ta : Nat → Bool) (ops : Array Oper) (i j : Nat) (x y : Oper) : Bool :=
  (jT (mv i) x).all (fun t => !(y.looksAt ops).contains t && !(jT (mv j) y).contains t) &&
  (jT (mv j) y).all (fun t => !(x.looksAt ops).contains t) &&
  (jC (mv i) (pu i) (ta i) x == 0 || jC (mv j) (pu j) (ta j) y == 0 || (jC (mv i) (pu i) (ta i) x == 1 && (jC (mv j) (pu j) (ta j) y == 1 || aQt y)))
def waits (ops : Array Oper) : Nat → Nat → Nat → Bool
  | 0, _, _ => false
  | n + 1, j, k => match ops[j]? with
    | some o => o.after.any fun e => Region.binds .any e && (e.on == k || waits ops n e.on k)
    | none => false
def aOl (mv pu ta : Nat → Bool) (ops : Array Oper) : Nat → Nat → Array Bool → Bool
  | 0, _, listed => (Region.ready .any ops listed).isEmpty
  | n + 1, k, listed =>
    (Region.ready .any ops listed).contains k &&
    (List.range ops.size).all (fun j => j == k || listed.getD j true ||
      (match ops[k]?, ops[j]? with
       | some x, some y => y.after.any (fun e => Region.binds .any e && e.on == k) || (aQb mv pu ta ops k j x y || waits ops 8 j k)
       | _, _ => false)) &&
    aOl mv pu ta ops n (k + 1) (listed.setIfInBounds k true)
def aBC (mv pu ta : Nat → Bool) (ops : Array Oper) : Bool := aOl mv pu ta ops ops.size 0 (Array.replicate ops.size false)
inductive Out (m : Bool) where
  | norm (s : (St m))
  | exit (id : Nat) (s : (St m))
  | ret (s : (St m))
def St.forget (s : (St m)) (ts bs : List Nat) : (St m) :=
  { tmps := ts.foldl (fun l t => l.set t .any) s.tmps, boxes := bs.foldl (fun l b => l.set b none) s.boxes }
def SV.noPtr (bs : List Nat) : (SV m) → Bool | .ptr b _ => !bs.contains b | .bsl b _ _ _ => !bs.contains b | _ => true
def SV.noBox (bs : List Nat) : (SV m) → Bool
  | .fn _ caps => caps.all (SV.noPtr bs)
  | .tup vs => vs.all (SV.noPtr bs)
  | v => v.noPtr bs
def St.noBox (s : (St m)) (bs : List Nat) : Bool := bs.isEmpty || (s.tmps.all (SV.noBox bs) && s.boxes.all fun | some cs => cs.all (SV.noBox bs) | none => true)
def St.again (s : (St m)) (ts bs : List Nat) : Option (St m) := aB ((s.forget ts bs).noBox bs) (some (s.forget ts bs))
def SV.refs : (SV m) → List Nat
  | .fn _ caps => caps.flatMap SV.boxIds
  | .tup vs => vs.flatMap SV.boxIds
  | v => v.boxIds
def St.refs (s : (St m)) : List Nat := s.tmps.flatMap SV.refs ++ s.boxes.flatMap fun | some cs => cs.flatMap SV.refs | none => []
def St.tidy (s : (St m)) (ts : List Nat) : List Nat → (St m)
  | [] => s.forget ts []
  | b :: bs => (s.again ts ((b :: bs).filter fun b => !(s.forget ts []).refs.contains b)).getD (s.forget ts [])
def SV.frzF (b : Nat) (ls : List (aF m)) : (SV m) → (SV m)
  | .ptr b' o => if b' = b then .eptr (Fl.kept m) ls o else .ptr b' o
  | .bsl b' z lo n => if b' = b then .any else .bsl b' z lo n
  | v => v
def SV.frz (b : Nat) (ls : List (aF m)) : (SV m) → (SV m)
  | .fn g caps => .fn g (caps.map (SV.frzF b ls))
  | .tup vs => .tup (vs.map (SV.frzF b ls))
  | v => v.frzF b ls
def St.freeze1 (s : (St m)) (b : Nat) : (St m) := match (bP s.boxes b).bind dV with
  | some ls => { tmps := s.tmps.map (SV.frz b ls), boxes := (s.boxes.set b none).map (Option.map (List.map (SV.frz b ls))) }
  | none => s
def St.freeze (s : (St m)) : List Nat → (St m)
  | [] => s
  | b :: bs => (s.freeze1 b).freeze bs
def St.dropC (s : (St m)) (d : Nat → List Nat × List Nat) : Operand → (St m)
  | .tmp t => s.tidy (d t).1 (d t).2
  | _ => s
def rounds (body : (St m) → Option (Out m)) (again : (St m) → Option (St m)) : Nat → (St m) → Option (Out m)
  | 0, _ => none
  | n + 1, s => (again s).bind fun s => (body s).bind fun
    | .norm s' => rounds body again n s'
    | o => some o
def aNh {β : Type} (f : (St m) → Option β) (k : (Out m) → Option β) : (Out m) → Option β
  | .norm s => f s
  | .exit id s => k (.exit id s)
  | .ret s => k (.ret s)
def yY {β : Type} (id : Nat) (k : (Out m) → Option β) : (Out m) → Option β
  | .norm s => k (.norm s)
  | .exit id' s => if id' = id then k (.norm s) else k (.exit id' s)
  | .ret s => k (.ret s)
def fF {β : Type} (P : Program) (D : (cD m)) (H : gZ) (loop : ((St m) → Option (Out m)) → ((St m) → Option (St m)) → (St m) → Option (Out m)) : Nat → Code → (St m) → ((Out m) → Option β) → Option β
  | _, .skip, s, k => k (.norm s)
  | _, .region id ops draw, s, k => aB (!draw || aBC (H.mv id) (H.pure id) (H.take id) ops) (mJ P D H.nt (H.mv id) (H.pure id) (H.take id) ops ops.toList 0 s fun s' => k (.norm ((s'.tidy (H.after id) (H.afterB id)).freeze (H.fz id))))
  | blk, .seq a b, s, k => fF P D H loop blk a s (aNh (fun s' => fF P D H loop blk b s' k) k)
  | blk, .cond c a b, s, k => qQ (s.eval c) fun t => aA t (fF P D H loop blk a (s.dropC H.condA c) k) (fF P D H loop blk b (s.dropC H.condB c) k)
  | _, .block id a, s, k => fF P D H loop id a s (yY id k)
  | blk, .loop a, s, k => (loop (fun s => fF P D H loop blk a s some) (fun s => s.again (H.clear blk) (H.drop blk)) s).bind k
  | _, .exit id, s, k => k (.exit id s)
  | _, .ret, s, k => k (.ret s)
  | _, _, _, _ => none
def aS2 (n : Nat) (l : List (SV m)) : List (SV m) := l ++ List.replicate (n - l.length) .any
def qB {α : Type} (z : Nat) : Nat → List α → List (List α)
  | 0, _ => []
  | n + 1, l => l.take z :: qB z n (l.drop z)
def aSS (nt : Nat) (s : (St m)) : (SV m) → Option (SV m)
  | .bsl b z lo n => if b < nt ∧ lo = 0 then (s.box b).bind fun cs => if n * z ≤ cs.length ∧ 0 < z then (dV (cs.take (n * z))).map fun l => .leaf (.sl (Fl.new m) (qB z n l)) else none else none
  | v => some v
def aLi (P : Program) (nt : Nat) (s : (St m)) : ResultVar → Option (SV m)
  | .tmp t => aSS nt s (s.tmps.getD t .any)
  | .cell a t => match s.tmps.getD a .any with
    | .ptr b p => (s.box b).bind fun cs =>
      if rL P t then (eX P t).bind fun n => if p + n ≤ cs.length then (dV ((cs.drop p).take n)).map .agg else none
      else if b < nt then cs[p]? else none
    | _ => none
def aGx (P : Program) (nt : Nat) (s : (St m)) : List ResultVar → Option (List (SV m))
  | [] => some []
  | r :: rs => (aLi P nt s r).bind fun v => (aGx P nt s rs).map (v.drop :: ·)
def aQg (P : Program) (fn : Func) (s : (St m)) : Option (SV m) :=
  match fn.results.toList with
  | [r] => aLi P fn.ntmps s r
  | rs => (aGx P fn.ntmps s rs).map .tup
def aBv (fn : Func) (args : List (SV m)) (boxes : List (List (SV m))) : (St m) :=
  { tmps := aS2 fn.ntmps (args.map (SV.ren (fn.ntmps + ·))), boxes := List.replicate fn.ntmps none ++ boxes.map some }
def aGP (P : Program) (fn : Func) (n : Nat) (s : (St m)) : Option ((SV m) × List (List (SV m))) :=
  (aQg P fn s).bind fun v => aB v.flatT <|
    (xG s.boxes ((List.range n).map (fn.ntmps + ·))).bind fun cs => aB (cs.all (·.all SV.flat)) (some (v, cs))
def aOG (P : Program) (fn : Func) (n : Nat) : (Out m) → Option ((SV m) × List (List (SV m)))
  | .norm s => aGP P fn n s
  | .ret s => aGP P fn n s
  | .exit _ _ => none
def aP5 (P : Program) (D : (cD m)) (H : FuncId → gZ) (loop : ((St m) → Option (Out m)) → ((St m) → Option (St m)) → (St m) → Option (Out m)) : (cD m) := fun f args boxes =>
  match P.funcs[f]? with
  | some fn => match fn.body with
    | some c => fF P D ((H f).fit fn.ntmps) loop 0 c (aBv fn args boxes) (aOG P fn boxes.length)
    | none => none
  | none => none
abbrev aMq (m : Bool) := FuncId → Option (List (SV m) → List (List (SV m)) → Option ((SV m) × List (List (SV m))))
def aCt (P : Program) (T : (aMq m)) (H : FuncId → gZ) : Nat → (cD m)
  | 0 => fun _ _ _ => none
  | n + 1 => fun f args boxes => match T f with
    | some t => t args boxes
    | none => aP5 P (aCt P T H n) H (fun body again s => rounds body again n s) f args boxes
end Go.Vs
end
section
set_option linter.unusedVariables false
set_option linter.unusedSimpArgs false
namespace Go.Vs
variable {m : Bool}
structure Eff (m : Bool) where
  tmps : List (Tmp × (SV m))
  boxes : Option (iC m)
def Eff.app (e : (Eff m)) (s : (St m)) : (St m) := { tmps := eU s.tmps e.tmps, boxes := e.boxes.getD s.boxes }
def uR (dst : Option Tmp) (v : (SV m)) : List (Tmp × (SV m)) := match dst with | some d => [(d, v)] | none => []
theorem kY (l : List (SV m)) (a b : List (Tmp × (SV m))) : eU l (a ++ b) = eU (eU l a) b := by simp [eU]
theorem zJ (s : (St m)) (dst : Option Tmp) (v : (SV m)) : s.put dst v = { s with tmps := eU s.tmps (uR dst v) } := by
  cases dst <;> simp [St.put, uR, eU]
def aCH (D : (cD m)) (bs : (iC m)) (pureHint : Bool) (f : FuncId) (args : List (SV m)) : Option ((SV m) × Option (iC m)) :=
  aB (args.all SV.handed) <|
    if pureHint then
      if nF args = [] then (D f args []).map fun r => (r.1, none) else none
    else
      (xG bs (nF args)).bind fun cs => aB (cs.all (·.all SV.flat)) <|
        (D f (args.map (SV.ren (iM (nF args)))) cs).map fun r => (r.1, some (jI bs (nF args) r.2))
def dG (P : Program) (D : (cD m)) (nt : Nat) (mv pu ta : Bool) (o : Oper) (ρ : Operand → (SV m)) (bs : (iC m)) : Option (Eff m) :=
  let val (v : Option (SV m)) : Option (Eff m) := v.map fun v => ⟨uR o.dst v, none⟩
  match o.op with
  | .move x | .assign x => if mv then some ⟨lX ρ x ++ uR o.dst (aLq P o.type (ρ x)), none⟩ else some ⟨uR o.dst (ρ x).drop, none⟩
  | .pick c a b => qQ (ρ c) fun c => aA c (some ⟨uR o.dst (ρ a).drop, none⟩) (some ⟨uR o.dst (ρ b).drop, none⟩)
  | .box _ x => match o.dst with
    | some d => match bP bs d with
      | none => aB (decide (d < nt) && ((ρ x).data || aMw (ρ x))) (some ⟨lX ρ x ++ [(d, .ptr d 0)], some (bs.set d (some (ρ x).cells))⟩)
      | some _ => none
    | none => none
  | .alloc t => match o.dst with
    | some d => match bP bs d with
      | none => aB (decide (d < nt)) <| (sL P t).map fun z => ⟨[(d, .ptr d 0)], some (bs.set d (some (rF P t 0 z)))⟩
      | some _ => none
    | none => none
  | .makeSlice t l c => match o.dst with
    | some d => match bP bs d with
      | none => aB (decide (d < nt)) <| (aPD P t (ρ l) (ρ c)).map fun p => ⟨[(d, .bsl d p.1.1 0 p.1.2)], some (bs.set d (some p.2))⟩
      | some _ => none
    | none => none
  | .build t parts => val (aOe P t mv (parts.toList.map fun p => (p.1, ρ p.2)))
  | .buildSlice t n parts => val (aAK P t n (parts.toList.map fun p => (p.1, ρ p.2)))
  | .load t x => match ρ x with
    | .eptr _ e p => val (aE9 P t e p)
    | .ptr b p => (bP bs b).bind fun cs =>
      if rL P t then (eX P t).bind fun n => if p + n ≤ cs.length then (dV ((cs.drop p).take n)).map fun l => ⟨uR o.dst (.agg l), none⟩ else none
      else (cs[p]?).map fun c => if mv then ⟨uR o.dst c, some (bs.set b (some (cs.set p c.drop)))⟩ else ⟨uR o.dst c.drop, none⟩
    | _ => none
  | .store t x y => match ρ x with
    | .eptr c e p => if (c.isSoft = true ∧ fL e p = true) ∧ (ρ y).plain = true ∧ eX P t = some 1 then val (some .skip) else none
    | .ptr b p => (bP bs b).bind fun cs => (eX P t).bind fun n => aB (ρ y).data <|
      if n = (ρ y).cells.length ∧ p + n ≤ cs.length then some ⟨lX ρ y ++ uR o.dst .skip, some (bs.set b (some (cs.take p ++ (ρ y).cells ++ cs.drop (p + n))))⟩ else none
    | _ => none
  | .nilCheck x => match ρ x with
    | .ptr b p => val (some (.ptr b p))
    | .eptr c e p => val (some (.eptr c e p))
    | _ => none
  | .binOp op t x y _ => val (aPN P op t (ρ x) (ρ y))
  | .unOp op _ x => val (unV op (ρ x))
  | .convert src dst x => val (aLZ P src dst (ρ x))
  | .makeFunc fn first caps => match fn with
    | .func f => if first.size = 0 then aB ((caps.toList.map ρ).all aRB) (val (some (.fn f (caps.toList.map ρ)))) else none
    | _ => none
  | .slice t x lo hi mx => match mx with
    | none => (xM ρ lo).bind fun l => (xM ρ hi).bind fun h => val (aFM P t (ρ x) l h)
    | some _ => none
  | .fieldAddr t x f => val (aBA P t (ρ x) f)
  | .field t x f => match ρ x with
    | .agg cs => (aEI P t f).bind fun p => val (aE9 P p.2 cs p.1)
    | _ => none
  | .indexAddr t x i => val (sN P t (ρ x) (ρ i))
  | .index t x i => val (aIN P t (ρ x) (ρ i))
  | .extract x i => match ρ x with
    | .tup vs => (vs[i]?).bind fun v => val (some v.drop)
    | _ => none
  | .call c => match c.callee with
    | .builtin b => match b, c.args.toList with
      | .append, [x, y] => (aG5 P c.argTypes (ρ x) (ρ y)).map fun v => ⟨lX ρ x ++ uR o.dst v, none⟩
      | .len, [x] => val (aUb P c.argTypes (ρ x))
      | .max, [x, y] => val (aRr true (ρ x) (ρ y))
      | .min, [x, y] => val (aRr false (ρ x) (ρ y))
      | _, _ => none
    | .value g => match ρ g with
      | .fn f caps => aB (decide (cW c.args.toList).Nodup) <| (aCH D bs pu f (c.args.toList.map (wA ta ρ) ++ caps)).map fun r => ⟨(aBQ ta c.args.toList).flatMap (lX ρ) ++ uR o.dst r.1, r.2⟩
      | _ => none
    | .invoke _ _ => none
  | _ => none
theorem aGO {β : Type} (P : Program) (D : (cD m)) (nt : Nat) (mv pu ta : Bool) (o : Oper) (s : (St m)) (k : (St m) → Option β) :
    gR P D nt mv pu ta o s k = (dG P D nt mv pu ta o s.eval s.boxes).bind fun e => k (e.app s) := by
  obtain ⟨dst, op, type, pos, after, guard⟩ := o
  have hd : ∀ v, s.put dst v = (⟨uR dst v, none⟩ : (Eff m)).app s := fun v => by rw [zJ]; rfl
  have ht : ∀ x v, (s.take x).put dst v = (⟨lX s.eval x ++ uR dst v, none⟩ : (Eff m)).app s := fun x v => by
    rw [zJ]; simp [St.take, St.takes, Eff.app, kY]
  cases op
  case move x => simp only [gR, dG]; split <;> simp [hd, ht]
  case assign x => simp only [gR, dG]; split <;> simp [hd, ht]
  case pick c a b =>
    simp only [gR, dG, hd]
    cases s.eval c <;> simp [qQ]
    rename_i l
    cases l <;> simp
    rename_i b
    cases b <;> simp [aA]
  case box t x =>
    simp only [gR, dG]
    cases dst with
    | none => rfl
    | some d =>
      simp only [St.box]
      cases bP s.boxes d with
      | some _ => rfl
      | none =>
        simp only
        cases (decide (d < nt) && ((s.eval x).data || aMw (s.eval x))) <;> simp [aB]
        congr 1
        simp [Eff.app, St.put, St.setBox, St.take, St.takes, eU]
  case alloc t =>
    simp only [gR, dG]
    cases dst with
    | none => rfl
    | some d =>
      simp only [St.box]
      cases bP s.boxes d with
      | some _ => rfl
      | none => cases decide (d < nt) <;> cases sL P t <;> simp [aB, Eff.app, St.put, St.setBox, eU]
  case makeSlice t l c =>
    simp only [gR, dG]
    cases dst with
    | none => rfl
    | some d =>
      simp only [St.box]
      cases bP s.boxes d with
      | some _ => rfl
      | none => cases decide (d < nt) <;> cases aPD P t (s.eval l) (s.eval c) <;> simp [aB, Eff.app, St.put, St.setBox, eU]
  case build t parts => simp only [gR, dG, hd]; cases aOe P t mv (parts.toList.map fun p => (p.1, s.eval p.2)) <;> simp
  case buildSlice t n parts => simp only [gR, dG, hd]; cases aAK P t n (parts.toList.map fun p => (p.1, s.eval p.2)) <;> simp
  case load t x =>
    simp only [gR, dG, hd]
    cases s.eval x <;> simp only [Option.bind_none]
    · rename_i b p
      simp only [St.box]
      cases bP s.boxes b with
      | none => rfl
      | some cs =>
        simp only [Option.bind_some]
        split
        · cases eX P t with
          | none => rfl
          | some n =>
            simp only [Option.bind_some]
            split
            · cases dV ((cs.drop p).take n) <;> simp
            · rfl
        · cases cs[p]? with
          | none => rfl
          | some c => cases mv <;> simp [Eff.app, St.put, St.setBox, uR, eU] <;> cases dst <;> simp
    · rename_i c e p
      cases aE9 P t e p <;> simp
  case store t x y =>
    simp only [gR, dG]
    cases s.eval x <;> simp only [Option.bind_none]
    rotate_left
    · rename_i c e p
      split
      · simp [hd]
      · rfl
    rename_i b p
    simp only [St.box]
    cases bP s.boxes b with
    | none => rfl
    | some cs =>
      simp only [Option.bind_some]
      cases eX P t with
      | none => rfl
      | some n =>
        simp only [Option.bind_some]
        cases (s.eval y).data <;> simp only [aB, Option.bind_none]
        split
        · simp only [Option.bind_some]
          congr 1
          rw [zJ]
          simp [Eff.app, St.setBox, St.take, St.takes, kY]
        · rfl
  case nilCheck x => simp only [gR, dG, hd]; cases s.eval x <;> simp
  case binOp op t x y u => simp only [gR, dG, hd]; cases aPN P op t (s.eval x) (s.eval y) <;> simp
  case unOp op t x => simp only [gR, dG, hd]; cases unV op (s.eval x) <;> simp
  case convert a b x => simp only [gR, dG, hd]; cases aLZ P a b (s.eval x) <;> simp
  case makeFunc fn first caps =>
    simp only [gR, dG, hd]
    cases fn <;> simp only [Option.bind_none]
    split
    · cases (caps.toList.map s.eval).all aRB <;> simp [aB]
    · rfl
  case slice t x lo hi mx =>
    simp only [gR, dG, hd]
    cases mx <;> simp only [Option.bind_none]
    cases xM s.eval lo with
    | none => rfl
    | some l =>
      cases xM s.eval hi with
      | none => rfl
      | some h => simp only [Option.bind_some]; cases aFM P t (s.eval x) l h <;> simp
  case fieldAddr t x f => simp only [gR, dG, hd]; cases aBA P t (s.eval x) f <;> simp
  case field t x f =>
    simp only [gR, dG, hd]
    cases s.eval x <;> simp only [Option.bind_none]
    rename_i cs
    cases aEI P t f with
    | none => rfl
    | some p => simp only [Option.bind_some]; cases aE9 P p.2 cs p.1 <;> simp
  case indexAddr t x i => simp only [gR, dG, hd]; cases sN P t (s.eval x) (s.eval i) <;> simp
  case index t x i => simp only [gR, dG, hd]; cases aIN P t (s.eval x) (s.eval i) <;> simp
  case extract x i =>
    simp only [gR, dG, hd]
    cases s.eval x <;> simp only [Option.bind_none]
    rename_i vs
    cases vs[i]? <;> simp
  case call c =>
    simp only [gR, dG, hd]
    cases c.callee with
    | invoke _ _ => rfl
    | builtin b =>
      simp only
      generalize c.args.toList = l
      cases b <;> (try rfl) <;> (rcases l with _ | ⟨x, _ | ⟨y, _ | ⟨z, r⟩⟩⟩ <;> (try rfl))
      · simp only [ht]; cases aG5 P c.argTypes (s.eval x) (s.eval y) <;> rfl
      · simp only; cases aUb P c.argTypes (s.eval x) <;> rfl
      · simp only; cases aRr true (s.eval x) (s.eval y) <;> rfl
      · simp only; cases aRr false (s.eval x) (s.eval y) <;> rfl
    | value g =>
      simp only
      cases s.eval g <;> simp only [Option.bind_none]
      rename_i f caps
      simp only [aSP, aCH]
      cases decide (cW c.args.toList).Nodup <;> simp only [aB, Option.bind_none]
      cases (c.args.toList.map (wA ta s.eval) ++ caps).all SV.handed <;> simp only [aB, Option.map_none, Option.bind_none]
      cases pu
      · simp only [Bool.false_eq_true, if_false, St.takes]
        cases xG s.boxes (nF (c.args.toList.map (wA ta s.eval) ++ caps)) with
        | none => rfl
        | some cs =>
          simp only [Option.bind_some]
          cases cs.all (·.all SV.flat) <;> simp only [Option.map_none, Option.bind_none]
          cases D f ((c.args.toList.map (wA ta s.eval) ++ caps).map (SV.ren (iM (nF (c.args.toList.map (wA ta s.eval) ++ caps))))) cs with
          | none => rfl
          | some r =>
            simp only [Option.bind_some, Option.map_some]
            congr 1
            rw [zJ]
            simp [Eff.app, kY]
      · simp only [if_true]
        split
        · cases D f (c.args.toList.map (wA ta s.eval) ++ caps) [] with
          | none => rfl
          | some r =>
            simp only [Option.bind_some, Option.map_some]
            congr 1
            rw [zJ]
            simp [Eff.app, St.takes, kY]
        · rfl
  all_goals rfl
end Go.Vs
end
section
namespace Go.Vs
variable {m : Bool}
section
variable {P : Program} {D : (cD m)} {ops : Array Oper} {nt : Nat} {mv pu ta : Nat → Bool}
def oC (P : Program) (D : (cD m)) (nt : Nat) (mv pu ta : Bool) (ops : Array Oper) (o : Oper) (s : (St m)) : Option (Eff m) :=
  match o.guard with
  | none => dG P D nt mv pu ta o s.eval s.boxes
  | some (j, want) => match (ops[j]?).bind (·.dst) with
    | some t => rV (s.tmps.getD t .any) want (dG P D nt mv pu ta o s.eval s.boxes) (some ⟨uR o.dst .skip, none⟩)
    | none => none
theorem aQf {α β : Type} (v : (SV m)) (want : Bool) (x y : Option α) (f : α → Option β) : (rV v want x y).bind f = rV v want (x.bind f) (y.bind f) := by
  unfold rV
  cases v <;> try rfl
  rename_i l
  cases l <;> try rfl
  rename_i b
  simp only [aA]
  cases b == want <;> rfl
theorem aBs {β : Type} (mv pu ta : Bool) (o : Oper) (s : (St m)) (k : (St m) → Option β) :
    aQ9 P D nt mv pu ta ops o s k = (oC P D nt mv pu ta ops o s).bind fun e => k (e.app s) := by
  unfold aQ9 oC
  cases o.guard with
  | none => exact aGO ..
  | some g =>
    obtain ⟨j, want⟩ := g
    simp only
    cases (ops[j]?).bind (·.dst) with
    | none => rfl
    | some t =>
      simp only [aQf, aGO, Option.bind_some]
      rw [zJ]; rfl
theorem wK {ρ ρ' : Operand → (SV m)} {x : Operand} (h : ρ x = ρ' x) : lX ρ x = lX ρ' x := by cases x <;> simp_all [lX]
theorem aJu {ρ ρ' : Operand → (SV m)} {x : Option Operand} (h : ∀ y ∈ x.toArray, ρ y = ρ' y) : xM ρ x = xM ρ' x := by cases x <;> simp_all [xM]
theorem aHH {ρ ρ' : Operand → (SV m)} {l : List Operand} (h : ∀ y ∈ l, ρ y = ρ' y) : l.flatMap (lX ρ) = l.flatMap (lX ρ') := by
  induction l with
  | nil => rfl
  | cons x l ih => simp only [List.flatMap_cons]; rw [wK (h x (by simp)), ih fun y hy => h y (by simp [hy])]
theorem aRR {mv pu ta : Bool} {o : Oper} {ρ ρ' : Operand → (SV m)} {bs bs' : (iC m)} (h : ∀ x ∈ o.op.operands, ρ x = ρ' x) (hb : jC mv pu ta o ≠ 0 → bs = bs') :
    dG P D nt mv pu ta o ρ bs = dG P D nt mv pu ta o ρ' bs' := by
  obtain ⟨dst, op, type, pos, after, guard⟩ := o
  have pairs : ∀ ps : Array (Nat × Operand), (∀ x ∈ (ps.toList.map (·.2)), ρ x = ρ' x) → (ps.toList.map fun p => (p.1, ρ p.2)) = (ps.toList.map fun p => (p.1, ρ' p.2)) := fun ps hp =>
    List.map_congr_left fun p hm => by rw [hp p.2 (List.mem_map.2 ⟨p, hm, rfl⟩)]
  cases op
  case build t ps => simp only [dG]; rw [pairs ps fun x hx => h x (by simpa [Op.operands] using hx)]
  case buildSlice t n ps => simp only [dG]; rw [pairs ps fun x hx => h x (by simpa [Op.operands] using hx)]
  case makeFunc fn first caps =>
    simp only [dG]
    rw [List.map_congr_left (l := caps.toList) (g := ρ') fun x hx => h x (by simp only [Op.operands, Array.mem_append]; exact .inr (by simpa using hx))]
  case slice t x lo hi mx =>
    simp only [dG]
    cases mx with
    | some _ => rfl
    | none =>
      simp only
      rw [h x (by simp [Op.operands]), aJu (x := lo) fun y hy => h y (by simp only [Op.operands, Array.mem_append]; exact .inl (.inl (.inr hy))),
        aJu (x := hi) fun y hy => h y (by simp only [Op.operands, Array.mem_append]; exact .inl (.inr hy))]
  case call c =>
    simp only [dG]
    have hargs : ∀ x ∈ c.args.toList, ρ x = ρ' x := fun x hx => h x (by simp only [Op.operands, Call.operands, Array.mem_append]; exact .inr (by simpa using hx))
    cases hc : c.callee with
    | invoke _ _ => rfl
    | builtin b =>
      simp only
      generalize c.args.toList = l at hargs
      cases b <;> (try rfl) <;> (rcases l with _ | ⟨x, _ | ⟨y, _ | ⟨z, r⟩⟩⟩ <;> (try rfl))
      · simp only; rw [hargs x (by simp), hargs y (by simp), wK (hargs x (by simp))]
      · simp only; rw [hargs x (by simp)]
      · simp only; rw [hargs x (by simp), hargs y (by simp)]
      · simp only; rw [hargs x (by simp), hargs y (by simp)]
    | value g =>
      have hg : ρ g = ρ' g := h g (by simp [Op.operands, Call.operands, hc])
      simp only
      have e1 : c.args.toList.map (wA ta ρ) = c.args.toList.map (wA ta ρ') := List.map_congr_left fun x hx => by unfold wA; rw [hargs x hx]
      have e2 : (aBQ ta c.args.toList).flatMap (lX ρ) = (aBQ ta c.args.toList).flatMap (lX ρ') := aHH fun x hx => hargs x (by cases ta with | true => exact hx | false => simp [aBQ] at hx)
      rw [hg, e1, e2]
      cases ρ' g <;> try rfl
      rename_i f caps
      simp only
      congr 2
      unfold aCH
      cases pu
      · rw [hb (by simp [jC, hc])]
      · rfl
  case load t x =>
    simp only [dG]
    rw [h x (by simp [Op.operands]), hb (by simp only [jC]; split <;> simp)]
  case store t x y =>
    simp only [dG]
    rw [h x (by simp [Op.operands]), h y (by simp [Op.operands]), wK (h y (by simp [Op.operands])), hb (by simp [jC])]
  case box t x =>
    simp only [dG]
    rw [h x (by simp [Op.operands]), wK (h x (by simp [Op.operands])), hb (by simp [jC])]
  case alloc t => simp only [dG]; rw [hb (by simp [jC])]
  case makeSlice t l c => simp only [dG]; rw [h l (by simp [Op.operands]), h c (by simp [Op.operands]), hb (by simp [jC])]
  case move x => simp only [dG]; rw [h x (by simp [Op.operands]), wK (h x (by simp [Op.operands]))]
  case assign x => simp only [dG]; rw [h x (by simp [Op.operands]), wK (h x (by simp [Op.operands]))]
  case pick c a b => simp only [dG]; rw [h c (by simp [Op.operands]), h a (by simp [Op.operands]), h b (by simp [Op.operands])]
  all_goals first | (simp only [dG]; done) | (simp only [dG]; simp_all [Op.operands]; done)
theorem aDw {ρ : Operand → (SV m)} {x : Operand} {p : Tmp × (SV m)} (h : p ∈ lX ρ x) : p.1 ∈ cW [x] := by
  cases x <;> simp_all [lX, cW]
theorem aRW {ρ : Operand → (SV m)} {l : List Operand} {p : Tmp × (SV m)} (h : p ∈ l.flatMap (lX ρ)) : p.1 ∈ cW l := by
  obtain ⟨x, hx, hp⟩ := List.mem_flatMap.1 h
  have := aDw hp
  simp only [cW, List.mem_filterMap] at this ⊢
  obtain ⟨y, hy, e⟩ := this
  exact ⟨y, by simp at hy; subst hy; exact hx, e⟩
theorem vB {dst : Option Tmp} {v : (SV m)} {p : Tmp × (SV m)} (h : p ∈ uR dst v) : p.1 ∈ dst.toList := by
  cases dst <;> simp_all [uR]
theorem aNO {mv pu ta : Bool} {o : Oper} {ρ : Operand → (SV m)} {bs : (iC m)} {e : (Eff m)} (h : dG P D nt mv pu ta o ρ bs = some e) :
    (∀ p ∈ e.tmps, p.1 ∈ jT mv o) ∧ (jC mv pu ta o ≠ 2 → e.boxes = none) := by
  obtain ⟨dst, op, type, pos, after, guard⟩ := o
  have val : ∀ {v : Option (SV m)}, (v.map fun v => (⟨uR dst v, none⟩ : (Eff m))) = some e → (∀ p ∈ e.tmps, p.1 ∈ dst.toList) ∧ e.boxes = none := by
    intro v hv
    obtain ⟨u, _, rfl⟩ := Option.map_eq_some_iff.1 hv
    exact ⟨fun p hp => vB hp, rfl⟩
  have fin : ∀ {op : Op}, (∀ p ∈ e.tmps, p.1 ∈ dst.toList) ∧ e.boxes = none → (∀ p ∈ e.tmps, p.1 ∈ jT mv ⟨dst, op, type, pos, after, guard⟩) ∧ (jC mv pu ta ⟨dst, op, type, pos, after, guard⟩ ≠ 2 → e.boxes = none) :=
    fun ⟨a, b⟩ => ⟨fun p hp => by simp only [jT, List.mem_append]; exact .inl (a p hp), fun _ => b⟩
  have mov : ∀ {x : Operand}, (if mv = true then some ⟨lX ρ x ++ uR dst (aLq P type (ρ x)), none⟩ else some ⟨uR dst (ρ x).drop, none⟩ : Option (Eff m)) = some e →
      (∀ p ∈ e.tmps, p.1 ∈ dst.toList ++ (if mv = true then cW [x] else [])) ∧ e.boxes = none := by
    intro x hx
    split at hx
    · obtain rfl := Option.some.inj hx
      refine ⟨fun p hp => ?_, rfl⟩
      rename_i hm
      simp only [hm, if_true, List.mem_append]
      rcases List.mem_append.1 hp with h | h
      · exact .inr (aDw h)
      · exact .inl (vB h)
    · obtain rfl := Option.some.inj hx
      exact ⟨fun p hp => List.mem_append.2 (.inl (vB hp)), rfl⟩
  cases op <;> simp only [dG] at h
  case move x => exact ⟨fun p hp => by simpa [jT, aD8] using (mov h).1 p hp, fun _ => (mov h).2⟩
  case assign x => exact ⟨fun p hp => by simpa [jT, aD8] using (mov h).1 p hp, fun _ => (mov h).2⟩
  case pick c a b =>
    refine fin ?_
    cases hc : ρ c <;> simp [hc, qQ] at h
    rename_i l
    cases l <;> simp at h
    rename_i b
    cases b <;> simp [aA] at h <;> subst h <;> exact ⟨fun p hp => vB hp, rfl⟩
  case box t x =>
    refine ⟨?_, fun hne => absurd rfl hne⟩
    cases dst with
    | none => simp at h
    | some d =>
      simp only at h
      split at h
      · cases hg : (decide (d < nt) && ((ρ x).data || aMw (ρ x))) <;> simp only [hg, aB] at h <;> try (simp at h; done)
        obtain h := Option.some.inj h
        subst h
        intro p hp
        simp only [jT, aD8, List.mem_append]
        rcases List.mem_append.1 hp with h | h
        · exact .inr (aDw h)
        · exact .inl (by simp at h; subst h; simp)
      · simp at h
  case alloc t =>
    refine ⟨?_, fun hne => absurd rfl hne⟩
    cases dst with
    | none => simp at h
    | some d =>
      simp only at h
      split at h
      · cases hg : decide (d < nt) <;> simp only [hg, aB] at h <;> try (simp at h; done)
        obtain ⟨z, _, rfl⟩ := Option.map_eq_some_iff.1 h
        intro p hp
        simp at hp
        subst hp
        simp [jT]
      · simp at h
  case makeSlice t l c =>
    refine ⟨?_, fun hne => absurd rfl hne⟩
    cases dst with
    | none => simp at h
    | some d =>
      simp only at h
      split at h
      · cases hg : decide (d < nt) <;> simp only [hg, aB] at h <;> try (simp at h; done)
        obtain ⟨z, _, rfl⟩ := Option.map_eq_some_iff.1 h
        intro p hp
        simp at hp
        subst hp
        simp [jT]
      · simp at h
  case load t x =>
    refine ⟨?_, fun hne => ?_⟩ <;> cases hx : ρ x <;> simp only [hx] at h <;> try (simp at h; done)
    · obtain ⟨cs, _, h⟩ := Option.bind_eq_some_iff.1 h
      intro p hp
      simp only [jT, List.mem_append]
      refine .inl ?_
      split at h
      · obtain ⟨n, _, h⟩ := Option.bind_eq_some_iff.1 h
        split at h
        · obtain ⟨l, _, rfl⟩ := Option.map_eq_some_iff.1 h; exact vB hp
        · simp at h
      · obtain ⟨c, _, rfl⟩ := Option.map_eq_some_iff.1 h
        cases mv <;> exact vB hp
    · exact (fin (val h)).1
    · have hm : mv = false := by cases mv <;> simp [jC] at hne ⊢
      obtain ⟨cs, _, h⟩ := Option.bind_eq_some_iff.1 h
      split at h
      · obtain ⟨n, _, h⟩ := Option.bind_eq_some_iff.1 h
        split at h
        · obtain ⟨l, _, rfl⟩ := Option.map_eq_some_iff.1 h; rfl
        · simp at h
      · obtain ⟨c, _, rfl⟩ := Option.map_eq_some_iff.1 h; simp [hm]
    · exact (fin (val h) (op := .load t x)).2 hne
  case store t x y =>
    refine ⟨?_, fun hne => absurd rfl hne⟩
    cases hx : ρ x <;> simp only [hx] at h <;> try (simp at h; done)
    rotate_left
    · split at h
      · exact (fin (val h)).1
      · simp at h
    obtain ⟨cs, _, h⟩ := Option.bind_eq_some_iff.1 h
    obtain ⟨n, _, h⟩ := Option.bind_eq_some_iff.1 h
    cases hf : (ρ y).data <;> simp only [hf, aB] at h <;> try (simp at h; done)
    split at h
    · obtain rfl := Option.some.inj h
      intro p hp
      simp only [jT, aD8, List.mem_append]
      rcases List.mem_append.1 hp with h | h
      · exact .inr (aDw h)
      · exact .inl (vB h)
    · simp at h
  case makeFunc fn first caps =>
    cases fn <;> simp only at h <;> try (simp at h; done)
    split at h
    · cases hg : (caps.toList.map ρ).all aRB <;> simp only [hg, aB] at h <;> try (simp at h; done)
      exact fin (val h)
    · simp at h
  case slice t x lo hi mx =>
    cases mx <;> simp only at h <;> try (simp at h; done)
    obtain ⟨l, _, h⟩ := Option.bind_eq_some_iff.1 h
    obtain ⟨u, _, h⟩ := Option.bind_eq_some_iff.1 h
    exact fin (val h)
  case nilCheck x => cases hx : ρ x <;> simp only [hx] at h <;> first | exact fin (val h) | (simp at h; done)
  case field t x f =>
    cases hx : ρ x <;> simp only [hx] at h <;> try (simp at h; done)
    obtain ⟨p, _, h⟩ := Option.bind_eq_some_iff.1 h
    exact fin (val h)
  case extract x i =>
    cases hx : ρ x <;> simp only [hx] at h <;> try (simp at h; done)
    obtain ⟨p, _, h⟩ := Option.bind_eq_some_iff.1 h
    exact fin (val h)
  case call c =>
    cases hc : c.callee with
    | invoke _ _ => simp [hc] at h
    | builtin b =>
      simp only [hc] at h
      have ha : ∀ x y, b = .append → c.args.toList = [x, y] → e.boxes = none → (∀ p ∈ e.tmps, p ∈ lX ρ x ∨ p.1 ∈ dst.toList) → (∀ p ∈ e.tmps, p.1 ∈ jT mv ⟨dst, .call c, type, pos, after, guard⟩) ∧ (jC mv pu ta ⟨dst, .call c, type, pos, after, guard⟩ ≠ 2 → e.boxes = none) := by
        intro x y hb hl he hp
        refine ⟨fun p hpe => ?_, fun _ => he⟩
        subst hb
        simp only [jT, aD8, hc, hl, List.mem_append, List.take_succ_cons, List.take_zero]
        exact (hp p hpe).elim (fun h => .inr (aDw h)) .inl
      generalize hl : c.args.toList = l at h ha
      cases b <;> (try (simp at h; done)) <;> (rcases l with _ | ⟨x, _ | ⟨y, _ | ⟨z, r⟩⟩⟩ <;> (try (simp at h; done)))
      · obtain ⟨v, _, rfl⟩ := Option.map_eq_some_iff.1 h
        exact ha x y rfl rfl rfl fun p hp => (List.mem_append.1 hp).imp id vB
      · exact fin (val h)
      · exact fin (val h)
      · exact fin (val h)
    | value g =>
      simp only [hc] at h
      cases hg : ρ g <;> simp only [hg] at h <;> try (simp at h; done)
      rename_i f caps
      cases hn : decide (cW c.args.toList).Nodup <;> simp only [hn, aB] at h <;> try (simp at h; done)
      obtain ⟨r, hr, rfl⟩ := Option.map_eq_some_iff.1 h
      refine ⟨fun p hp => ?_, fun hne => ?_⟩
      · simp only [jT, aD8, hc, List.mem_append]
        refine (List.mem_append.1 hp).elim (fun h => .inr ?_) (fun h => .inl (vB h))
        cases ta with
        | true => exact aRW h
        | false => simp [aBQ] at h
      · cases pu
        · simp [jC, hc] at hne
        · simp only [aCH, if_true] at hr
          cases ha : (c.args.toList.map (wA ta ρ) ++ caps).all SV.handed <;> simp only [ha, aB] at hr <;> try (simp at hr; done)
          split at hr
          · obtain ⟨q, _, rfl⟩ := Option.map_eq_some_iff.1 hr; rfl
          · simp at hr
  all_goals first
    | (simp at h; done)
    | exact fin (val h)
theorem aGT (l : List (SV m)) (us : List (Tmp × (SV m))) (t : Nat) (d : (SV m)) (h : t ∉ us.map (·.1)) : (eU l us).getD t d = l.getD t d := by
  induction us generalizing l with
  | nil => rfl
  | cons u us ih =>
    simp only [List.map_cons, List.mem_cons, not_or] at h
    simp only [eU, List.foldl_cons]
    rw [show List.foldl (fun l (p : Tmp × (SV m)) => l.set p.1 p.2) (l.set u.1 u.2) us = eU (l.set u.1 u.2) us from rfl, ih _ h.2]
    simp [List.getD_eq_getElem?_getD, List.getElem?_set_ne (Ne.symm h.1)]
theorem aSB (l : List (SV m)) (us : List (Tmp × (SV m))) (t : Nat) (v : (SV m)) (h : t ∉ us.map (·.1)) : eU (l.set t v) us = (eU l us).set t v := by
  induction us generalizing l with
  | nil => rfl
  | cons u us ih =>
    simp only [List.map_cons, List.mem_cons, not_or] at h
    simp only [eU, List.foldl_cons]
    rw [List.set_comm _ _ h.1]
    exact ih _ h.2
theorem aRA (l : List (SV m)) (us vs : List (Tmp × (SV m))) (h : ∀ p ∈ us, p.1 ∉ vs.map (·.1)) : eU (eU l us) vs = eU (eU l vs) us := by
  induction us generalizing l with
  | nil => rfl
  | cons u us ih =>
    have h1 := h u (by simp)
    have e1 : eU l (u :: us) = eU (l.set u.1 u.2) us := rfl
    have e2 : eU (eU l vs) (u :: us) = eU ((eU l vs).set u.1 u.2) us := rfl
    rw [e1, e2, ih _ fun p hp => h p (by simp [hp]), aSB _ _ _ _ h1]
theorem aFR {mv pu ta : Bool} {o : Oper} {s s' : (St m)} (h : ∀ t ∈ o.looksAt ops, s.tmps.getD t .any = s'.tmps.getD t .any) (hb : jC mv pu ta o ≠ 0 → s.boxes = s'.boxes) :
    oC P D nt mv pu ta ops o s = oC P D nt mv pu ta ops o s' := by
  have he : dG P D nt mv pu ta o s.eval s.boxes = dG P D nt mv pu ta o s'.eval s'.boxes := aRR (fun x hx => by
    cases x with
    | tmp t => exact h t (by simp only [Oper.looksAt, List.mem_append, List.mem_filterMap]; exact .inl ⟨.tmp t, by simpa using hx, rfl⟩)
    | _ => rfl) hb
  unfold oC
  rw [he]
  cases hg : o.guard with
  | none => rfl
  | some g =>
    obtain ⟨j, want⟩ := g
    simp only
    cases hj : (ops[j]?).bind (·.dst) with
    | none => rfl
    | some t =>
      have : s.tmps.getD t .any = s'.tmps.getD t .any := h t (by simp [Oper.looksAt, hg, hj])
      simp only [this]
theorem aJh {mv pu ta : Bool} {o : Oper} {s : (St m)} {e : (Eff m)} (h : oC P D nt mv pu ta ops o s = some e) :
    (∀ p ∈ e.tmps, p.1 ∈ jT mv o) ∧ (jC mv pu ta o ≠ 2 → e.boxes = none) := by
  unfold oC at h
  cases hg : o.guard with
  | none => simp only [hg] at h; exact aNO h
  | some g =>
    obtain ⟨j, want⟩ := g
    simp only [hg] at h
    cases hj : (ops[j]?).bind (·.dst) with
    | none => simp [hj] at h
    | some t =>
      have skip : (some ⟨uR o.dst .skip, none⟩ : Option (Eff m)) = some e → (∀ p ∈ e.tmps, p.1 ∈ jT mv o) ∧ (jC mv pu ta o ≠ 2 → e.boxes = none) := by
        rintro h
        obtain rfl := Option.some.inj h
        exact ⟨fun p hp => by simp only [jT, List.mem_append]; exact .inl (vB hp), fun _ => rfl⟩
      simp only [hj, rV] at h
      split at h
      · rename_i b _
        simp only [aA] at h
        split at h
        · exact aNO h
        · exact skip h
      · exact skip h
      · simp at h
theorem aMC {bs : iC m} {b d : Nat} {c : Option (List (SV m))} (h : b ≠ d) : bP (bs.set d c) b = bP bs b := by
  unfold bP
  rw [List.getD_eq_getElem?_getD, List.getD_eq_getElem?_getD, List.getElem?_set_ne (Ne.symm h)]
theorem aRy {mv pu ta : Bool} {o : Oper} {s : (St m)} {e : (Eff m)} (hf : aQt o = true) (h : oC P D nt mv pu ta ops o s = some e) :
    e.boxes = none ∨ ∃ d c, bP s.boxes d = none ∧ e.boxes = some (s.boxes.set d (some c)) := by
  have eff : dG P D nt mv pu ta o s.eval s.boxes = some e → e.boxes = none ∨ ∃ d c, bP s.boxes d = none ∧ e.boxes = some (s.boxes.set d (some c)) := fun h => by
    obtain ⟨dst, op, type, pos, after, guard⟩ := o
    unfold aQt at hf
    cases op <;> simp only at hf <;> try (simp at hf; done)
    all_goals
      simp only [dG] at h
      cases dst with
      | none => simp at h
      | some d =>
        simp only at h
        split at h
        · rename_i hb
          refine .inr ⟨d, ?_⟩
          first
          | (cases hg : (decide (d < nt) && ((s.eval ‹Operand›).data || aMw (s.eval ‹Operand›))) <;> simp only [hg, aB] at h <;> try (simp at h; done)
             obtain rfl := Option.some.inj h
             exact ⟨_, hb, rfl⟩)
          | (cases hg : decide (d < nt) <;> simp only [hg, aB] at h <;> try (simp at h; done)
             obtain ⟨z, _, rfl⟩ := Option.map_eq_some_iff.1 h
             exact ⟨_, hb, rfl⟩)
        · simp at h
  unfold oC at h
  cases hg : o.guard with
  | none => simp only [hg] at h; exact eff h
  | some g =>
    obtain ⟨j, want⟩ := g
    simp only [hg] at h
    cases hj : (ops[j]?).bind (·.dst) with
    | none => simp [hj] at h
    | some t =>
      simp only [hj, rV] at h
      split at h
      · simp only [aA] at h
        split at h
        · exact eff h
        · obtain rfl := Option.some.inj h; exact .inl rfl
      · obtain rfl := Option.some.inj h; exact .inl rfl
      · simp at h
theorem aSC {mv pu ta : Bool} {o : Oper} {ρ : Operand → SV m} {bs : iC m} {e : (Eff m)} {d : Nat} {c : Option (List (SV m))} (hr : jC mv pu ta o = 1) (hd : bP bs d = none)
    (h : dG P D nt mv pu ta o ρ bs = some e) : dG P D nt mv pu ta o ρ (bs.set d c) = some e := by
  obtain ⟨dst, op, type, pos, after, guard⟩ := o
  cases op <;> simp only [jC] at hr <;> try (simp at hr; done)
  case load t x =>
    simp only [dG] at h ⊢
    cases hx : ρ x <;> simp only [hx] at h ⊢ <;> try (simp at h; done)
    · rename_i b p
      have hne : b ≠ d := fun he => by subst he; rw [hd] at h; simp at h
      have hm : mv = false := by cases mv <;> simp at hr ⊢
      subst hm
      rw [aMC hne]
      simpa using h
    · exact h
  case call cc =>
    exfalso
    revert hr
    split <;> (try split) <;> simp
theorem aTs {mv pu ta : Bool} {o : Oper} {s : (St m)} {e : (Eff m)} {d : Nat} {c : Option (List (SV m))} (hr : jC mv pu ta o = 1) (hd : bP s.boxes d = none)
    (h : oC P D nt mv pu ta ops o s = some e) : oC P D nt mv pu ta ops o { s with boxes := s.boxes.set d c } = some e := by
  have eff : dG P D nt mv pu ta o s.eval s.boxes = some e → dG P D nt mv pu ta o s.eval (s.boxes.set d c) = some e := aSC hr hd
  unfold oC at h ⊢
  cases hg : o.guard with
  | none => simp only [hg] at h ⊢; exact eff h
  | some g =>
    obtain ⟨j, want⟩ := g
    simp only [hg] at h ⊢
    cases hj : (ops[j]?).bind (·.dst) with
    | none => simp [hj] at h
    | some t =>
      simp only [hj, rV] at h ⊢
      split at h
      · rename_i b hb
        simp only [aA] at h ⊢
        split at h
        · exact eff h
        · exact h
      · exact h
      · simp at h
theorem aTT {i j : Nat} {oi oj : Oper} {s : (St m)} {ei ej : (Eff m)} (hap : aQb mv pu ta ops i j oi oj = true)
    (hi : oC P D nt (mv i) (pu i) (ta i) ops oi s = some ei) (hj : oC P D nt (mv j) (pu j) (ta j) ops oj (ei.app s) = some ej) :
    oC P D nt (mv j) (pu j) (ta j) ops oj s = some ej ∧ oC P D nt (mv i) (pu i) (ta i) ops oi (ej.app s) = some ei ∧ ej.app (ei.app s) = ei.app (ej.app s) := by
  simp only [aQb, Bool.and_eq_true, List.all_eq_true, Bool.not_eq_true', List.contains_eq_mem, decide_eq_false_iff_not, Bool.or_eq_true, beq_iff_eq] at hap
  obtain ⟨⟨h1, h2⟩, h3⟩ := hap
  obtain ⟨wi, bi⟩ := aJh hi
  obtain ⟨wj, bj⟩ := aJh hj
  have hbi : jC (mv j) (pu j) (ta j) oj ≠ 0 → ei.boxes = none := fun h => bi (by omega)
  have nin : ∀ t, t ∈ oj.looksAt ops → t ∉ ei.tmps.map (·.1) := fun t ht hm => by
    obtain ⟨p, hp, rfl⟩ := List.mem_map.1 hm
    exact (h1 p.1 (wi p hp)).1 ht
  have nin' : ∀ t, t ∈ oi.looksAt ops → t ∉ ej.tmps.map (·.1) := fun t ht hm => by
    obtain ⟨p, hp, rfl⟩ := List.mem_map.1 hm
    exact h2 p.1 (wj p hp) ht
  have first : oC P D nt (mv j) (pu j) (ta j) ops oj s = some ej := by
    rw [← hj]
    exact aFR (fun t ht => (aGT _ _ _ _ (nin t ht)).symm) (fun h => by simp [Eff.app, hbi h])
  refine ⟨first, ?_, ?_⟩
  · rcases h3 with h3 | ⟨h31, h3⟩
    · have hbj : jC (mv i) (pu i) (ta i) oi ≠ 0 → ej.boxes = none := fun h => bj (by omega)
      rw [← hi]
      exact aFR (fun t ht => aGT _ _ _ _ (nin' t ht)) (fun h => by simp [Eff.app, hbj h])
    · have grow : oC P D nt (mv i) (pu i) (ta i) ops oi { s with boxes := ej.boxes.getD s.boxes } = some ei := by
        rcases h3 with h3 | h3
        · rw [bj (by omega)]; exact hi
        · rcases aRy h3 first with hb | ⟨d, c, hd, hb⟩
          · rw [hb]; exact hi
          · rw [hb]; exact aTs h31 hd hi
      rw [← grow]
      exact aFR (fun t ht => aGT _ _ _ _ (nin' t ht)) (fun h => by simp [Eff.app])
  · have hc : eU (eU s.tmps ei.tmps) ej.tmps = eU (eU s.tmps ej.tmps) ei.tmps := aRA _ _ _ fun p hp hm => by
      obtain ⟨q, hq, e⟩ := List.mem_map.1 hm
      exact (h1 p.1 (wi p hp)).2 (e ▸ wj q hq)
    have hb : ei.boxes = none ∨ ej.boxes = none := by
      rcases Nat.eq_zero_or_pos (jC (mv j) (pu j) (ta j) oj) with h | h
      · exact .inr (bj (by omega))
      · exact .inl (hbi (by omega))
    rcases hb with hb | hb <;> simp [Eff.app, hc, hb]
def aTW (P : Program) (D : (cD m)) (nt : Nat) (mv pu ta : Nat → Bool) (ops : Array Oper) (Q : (St m) → Prop) : Nat → Array Bool → (St m) → Prop
  | 0, listed, s => Region.ready .any ops listed = [] ∧ Q s
  | fuel + 1, listed, s => (Region.ready .any ops listed = [] → Q s) ∧
    ∀ i ∈ Region.ready .any ops listed, ∃ o e, ops[i]? = some o ∧ oC P D nt (mv i) (pu i) (ta i) ops o s = some e ∧ aTW P D nt mv pu ta ops Q fuel (listed.setIfInBounds i true) (e.app s)
theorem aP9 {listed : Array Bool} {x : Nat} (h : listed.getD x false = true) : listed.getD x true = true := by
  rcases Nat.lt_or_ge x listed.size with h' | h'
  · simp only [Array.getD, h', dite_true] at h ⊢; exact h
  · simp [Array.getD, Nat.not_lt.2 h']
def aRQ (ops : Array Oper) (listed : Array Bool) : Prop :=
  ∀ (j : Nat) (o : Oper), ops[j]? = some o → listed.getD j true = true → ∀ e ∈ o.after, Region.binds .any e = true → listed.getD e.on false = true
theorem aRQ.waits {listed : Array Bool} (h : aRQ ops listed) : ∀ (n j k : Nat), listed.getD j true = true → Vs.waits ops n j k = true → listed.getD k false = true
  | 0, _, _, _, hw => by simp [Vs.waits] at hw
  | n + 1, j, k, hj, hw => by
    simp only [Vs.waits] at hw
    cases ho : ops[j]? with
    | none => simp [ho] at hw
    | some o =>
      simp only [ho, Array.any_eq_true, Bool.and_eq_true, Bool.or_eq_true, beq_iff_eq] at hw
      obtain ⟨i, hi, hb, he⟩ := hw
      have h1 := h j o ho hj _ (Array.getElem_mem hi) hb
      rcases he with he | he
      · rw [← he]; exact h1
      · exact h.waits n _ k (aP9 h1) he
theorem aRQ.put {listed : Array Bool} (h : aRQ ops listed) {i : Nat} (hi : i ∈ Region.ready .any ops listed) : aRQ ops (listed.setIfInBounds i true) := by
  obtain ⟨h0, o', ho', hall⟩ := mem_ready.1 hi
  have up : ∀ x : Nat, listed.getD x false = true → (listed.setIfInBounds i true).getD x false = true := fun x hx => by
    by_cases hxi : x = i
    · subst hxi
      rcases Nat.lt_or_ge x listed.size with h' | h'
      · simp [Array.getD, h']
      · simp [Array.getD, Nat.not_lt.2 h'] at hx
    · rwa [getD_set_ne false (Ne.symm hxi)]
  intro j o ho hj e he hb
  by_cases hji : j = i
  · subst hji
    rw [ho] at ho'
    obtain rfl := Option.some.inj ho'
    exact up _ (hall e he hb)
  · rw [getD_set_ne true (Ne.symm hji)] at hj
    exact up _ (h j o ho hj e he hb)
theorem aTz {Q : (St m) → Prop} {i : Nat} {oi : Oper} {ei : (Eff m)} (hi : ops[i]? = some oi) :
    ∀ (fuel : Nat) (listed : Array Bool) (s : (St m)), aRQ ops listed →
      (∀ j oj, ops[j]? = some oj → j ≠ i → listed.getD j true = false → (∀ e ∈ oj.after, Region.binds .any e = true → e.on ≠ i) → waits ops 8 j i = false → aQb mv pu ta ops i j oi oj = true) →
      i ∈ Region.ready .any ops listed → oC P D nt (mv i) (pu i) (ta i) ops oi s = some ei →
      aTW P D nt mv pu ta ops Q fuel (listed.setIfInBounds i true) (ei.app s) → aTW P D nt mv pu ta ops Q (fuel + 1) listed s := by
  intro fuel
  induction fuel with
  | zero =>
    intro listed s _ _ hr hy H
    refine ⟨fun h => (by rw [h] at hr; cases hr), fun j hj => ?_⟩
    by_cases hji : j = i
    · subst hji; exact ⟨oi, ei, hi, hy, H⟩
    · have := ready_mono hj hji
      rw [H.1] at this
      cases this
  | succ fuel ih =>
    intro listed s hshut hfree hr hy H
    refine ⟨fun h => (by rw [h] at hr; cases hr), fun j hj => ?_⟩
    by_cases hji : j = i
    · subst hji; exact ⟨oi, ei, hi, hy, H⟩
    · obtain ⟨oj, ej, hoj, hsj, hrest⟩ := H.2 j (ready_mono hj hji)
      obtain ⟨hjun, oj', hoj', hall⟩ := mem_ready.1 hj
      obtain rfl : oj' = oj := by rw [hoj] at hoj'; exact (Option.some.inj hoj').symm
      have hnot : ∀ e ∈ oj'.after, Region.binds .any e = true → e.on ≠ i := fun e he hb heq => by
        have h1 := hall e he hb
        have h0 := (mem_ready.1 hr).1
        rw [heq] at h1
        rcases Nat.lt_or_ge i listed.size with h' | h'
        · simp [h'] at h0 h1; rw [h0] at h1; cases h1
        · simp [Array.getElem?_eq_none h'] at h1
      have hnw : waits ops 8 j i = false := by
        cases hw : waits ops 8 j i with
        | false => rfl
        | true =>
          have h0 := (mem_ready.1 hr).1
          simp only [waits, hoj, Array.any_eq_true, Bool.and_eq_true, Bool.or_eq_true, beq_iff_eq] at hw
          obtain ⟨n, hn, hb, he⟩ := hw
          have h1 := hall _ (Array.getElem_mem hn) hb
          rcases he with he | he
          · exact absurd he (hnot _ (Array.getElem_mem hn) hb)
          · have h2 := hshut.waits 7 oj'.after[n].on i (aP9 h1) (by simpa only [waits, Bool.and_eq_true, Bool.or_eq_true, beq_iff_eq] using he)
            rw [aP9 h2] at h0
            cases h0
      obtain ⟨c1, c2, c3⟩ := aTT (hfree j oj' hoj hji hjun hnot hnw) hy hsj
      refine ⟨oj', ej, hoj, c1, ih (listed.setIfInBounds j true) (ej.app s) (hshut.put hj) ?_ (ready_mono hr (Ne.symm hji)) c2 ?_⟩
      · intro k ok hk hki hun hno
        refine hfree k ok hk hki ?_ hno
        by_cases hjk : j = k
        · subst hjk; exact hjun
        · rw [getD_set_ne true hjk] at hun; exact hun
      · rw [Array.setIfInBounds_comm _ _ hji, ← c3]
        exact hrest
theorem aS3 : ∀ (l : List Oper) (k : Nat) (listed : Array Bool) (s s' : (St m)), aRQ ops listed → (∀ j, l[j]? = ops[k + j]?) →
    aOl mv pu ta ops l.length k listed = true → mJ P D nt mv pu ta ops l k s some = some s' → aTW P D nt mv pu ta ops (· = s') l.length listed s
  | [], _, _, s, s', _, _, hB, h => by
    simp only [mJ, Option.some.injEq] at h
    exact ⟨by simpa [aOl] using hB, h⟩
  | o :: l, k, listed, s, s', hsh, hl, hB, h => by
    have h0 : ops[k]? = some o := by simpa using (hl 0).symm
    simp only [List.length_cons, aOl, Bool.and_eq_true] at hB
    obtain ⟨⟨hr, hf⟩, hB'⟩ := hB
    simp only [mJ, aBs] at h
    obtain ⟨e, he, hrest⟩ := Option.bind_eq_some_iff.1 h
    refine aTz h0 l.length listed s hsh ?_ (by simpa using hr) he (aS3 l (k + 1) _ _ _ (hsh.put (by simpa using hr)) (fun j => by have := hl (j + 1); simpa [Nat.add_assoc, Nat.add_comm 1 j] using this) hB' hrest)
    intro j oj hoj hjk hun hno hnw
    have hj : j < ops.size := (Array.getElem?_eq_some_iff.1 hoj).1
    have := List.all_eq_true.1 hf j (List.mem_range.2 hj)
    simp only [Bool.or_eq_true, beq_iff_eq, hjk, hun, Bool.false_eq_true, false_or, h0, hoj, Array.any_eq_true, Bool.and_eq_true, hnw, or_false] at this
    rcases this with ⟨n, hn, hb, hon⟩ | h
    · exact absurd hon (hno _ (Array.getElem_mem hn) hb)
    · exact h
theorem aRI {s s' : (St m)} (hB : aBC mv pu ta ops = true) (h : mJ P D nt mv pu ta ops ops.toList 0 s some = some s') :
    aTW P D nt mv pu ta ops (· = s') ops.size (Array.replicate ops.size false) s := by
  have := aS3 (P := P) (D := D) (nt := nt) (mv := mv) (pu := pu) ops.toList 0 (Array.replicate ops.size false) s s' (fun j o ho hj => by
    have hlt := (Array.getElem?_eq_some_iff.1 ho).1
    simp [Array.getD, hlt] at hj) (by simp) (by simpa [aBC] using hB) h
  simpa using this
end
end Go.Vs
end
section
namespace Go.Vs
variable {m : Bool}
structure Env where
  n : Nat
  Z : Nat → Bool
  lt : ∀ g, Z g = true → g < n
  T : Nat → Nat → Bool := fun _ _ => false
  K : List ((Nat × Nat) × Value) := []
variable {N : Env}
def aA0 : Value → Bool | .bool _ | .int _ _ | .string _ => true | _ => false
def aF.soft : (aF m) → Bool | .unk | .sl _ _ => true | _ => false
abbrev Fr := Nat → Nat
inductive Loc where
  | tmp (t : Nat) | box (b j : Nat) | blk (b : Nat)
  deriving DecidableEq
abbrev Own := Nat → Option Loc
def oV (w : World) (g : Nat) : Prop := ∃ cur e, w.heap[g]? = some (Obj.cells cur e (0, 0))
def Fl.Holds {m : Bool} (c : Fl m) (N : Env) (w : World) (g o : Nat) : Prop := match m, c with
  | true, sH.new => N.n ≤ g ∧ o = 0 ∧ oV w g
  | true, sH.tag k f => N.T k g = true ∧ (f = true → o = 0 ∧ oV w g)
  | _, _ => True
theorem Fl.Holds.to {c : Fl m} {w w' : World} {g o : Nat} (h : c.Holds N w g o) (ht : oV w g → oV w' g) : c.Holds N w' g o := by
  cases m with
  | false => cases c; trivial
  | true => cases c <;> first | exact ⟨h.1, h.2.1, ht h.2.2⟩ | exact ⟨h.1, fun f => ⟨(h.2 f).1, ht (h.2 f).2⟩⟩ | trivial
theorem Fl.Holds.kept {w : World} {g o : Nat} : (Fl.kept m).Holds N w g o := by cases m <;> trivial
theorem Fl.Holds.mk_new {w : World} {g : Nat} (h : N.n ≤ g) (ht : oV w g) : (Fl.new m).Holds N w g 0 := by
  cases m
  · trivial
  · exact ⟨h, rfl, ht⟩
theorem Fl.Holds.later {c : Fl m} {w : World} {g o z : Nat} {lo : Option Nat} (h : c.Holds N w g o) : (c.later lo).Holds N w g (o + lo.getD 0 * z) := by
  cases lo with
  | none => simpa [Fl.later] using h
  | some k => cases m with
    | false => trivial
    | true => cases c <;> first | exact ⟨h.1, fun f => by cases f⟩ | trivial
def Fl.At {m : Bool} (c : Fl m) (N : Env) (g : Nat) : Prop := match m, c with
  | true, sH.soft => N.Z g = true
  | true, sH.tag k _ => N.T k g = true
  | true, sH.new => N.n ≤ g
  | _, _ => True
theorem Fl.At.of {c : Fl m} {w : World} {g o : Nat} (h : c.Holds N w g o) (hs : c.isSoft = true → N.Z g = true) : c.At N g := by
  cases m with
  | false => trivial
  | true => cases c <;> first | exact h.1 | exact hs rfl | trivial
theorem Fl.At.z {c : Fl m} {g : Nat} (h : c.At N g) (hs : c.isSoft = true) : N.Z g = true := by
  cases m with
  | false => cases c; simp [Fl.isSoft] at hs
  | true => cases c <;> first | exact h | simp [Fl.isSoft] at hs
inductive eW (w : World) (F : Fr) (N : Env) : (aF m) → Value → Prop
  | bool (b : Bool) : eW w F N (.bool b) (.bool b)
  | int (k : IntKind) (n : Int) : eW w F N (.int k n) (.int k n)
  | str (s : ByteArray) : eW w F N (.str s) (.string s)
  | unk (v : Value) (h : aA0 v = true) : eW w F N .unk v
  | nl (e : Option TypeId) : eW w F N (.nl e) (.slice none 0 0)
  | sl (c : Fl m) (es : List (List (aF m))) (A : Option Addr) (cap z : Nat) (vals : List Value) (hc : es.length ≤ cap) (hz : ∀ e ∈ es, e.length = z) (hv : vals.length = es.length * z)
      (hcell : 0 < es.length → ∃ g o, A = some ⟨g, o, none⟩ ∧ (0 < vals.length ∧ c.Holds N w g o) ∧ o + vals.length ≤ F g ∧ ((c.isSoft = true → N.Z g = true) ∧ (N.Z g = true → ∀ l ∈ es.flatten, l.soft = true)) ∧ ∀ (j : Nat) (v : Value), vals[j]? = some v → w.cell? ⟨g, o + j, none⟩ = some v)
      (hrep : ∀ (j : Nat) (l : (aF m)) (v : Value), es.flatten[j]? = some l → vals[j]? = some v → eW w F N l v) : eW w F N (.sl c es) (.slice A es.length cap)
structure hM (N : Env) (w : World) (F : Fr) (w' : World) (F' : Fr) : Prop where
  hard : ∀ g j, j < F g → N.Z g = false → w'.cell? ⟨g, j, none⟩ = w.cell? ⟨g, j, none⟩
  soft : ∀ g j v, j < F g → w.cell? ⟨g, j, none⟩ = some v → ∃ v', w'.cell? ⟨g, j, none⟩ = some v' ∧ (v' = v ∨ (aA0 v = true ∧ aA0 v' = true))
  le : ∀ g, F g ≤ F' g
  fz : ∀ g, oV w g → oV w' g
theorem hM.mk' {w : World} {F : Fr} {w' : World} {F' : Fr} (h : ∀ g j, j < F g → w'.cell? ⟨g, j, none⟩ = w.cell? ⟨g, j, none⟩) (le : ∀ g, F g ≤ F' g) (fz : ∀ g, oV w g → oV w' g) : hM N w F w' F' :=
  ⟨fun g j hj _ => h g j hj, fun g j v hj hv => ⟨v, (h g j hj).trans hv, .inl rfl⟩, le, fz⟩
theorem oV.but {w w' : World} (g : Nat) (h : ∀ k : Nat, k < w.heap.size → k ≠ g → w'.heap[k]? = w.heap[k]?) (hg : g < w.heap.size → oV w' g) : ∀ k, oV w k → oV w' k := fun k hk => by
  obtain ⟨cur, e, hc⟩ := hk
  have hks : k < w.heap.size := (Array.getElem?_eq_some_iff.1 hc).1
  by_cases hkg : k = g
  · subst hkg; exact hg hks
  · exact ⟨cur, e, by rw [h k hks hkg]; exact hc⟩
theorem hM.refl (w : World) (F : Fr) : hM N w F w F := .mk' (fun _ _ _ => rfl) (fun _ => Nat.le_refl _) fun _ h => h
theorem hM.trans {w w1 w2 : World} {F F1 F2 : Fr} (h : hM N w F w1 F1) (k : hM N w1 F1 w2 F2) : hM N w F w2 F2 :=
  ⟨fun g j hj hz => (k.hard g j (Nat.lt_of_lt_of_le hj (h.le g)) hz).trans (h.hard g j hj hz), fun g j v hj hv => by
    obtain ⟨v1, h1, h2⟩ := h.soft g j v hj hv
    obtain ⟨v2, k1, k2⟩ := k.soft g j v1 (Nat.lt_of_lt_of_le hj (h.le g)) h1
    refine ⟨v2, k1, ?_⟩
    rcases h2 with rfl | ⟨a, b⟩ <;> rcases k2 with rfl | ⟨c, d⟩
    · exact .inl rfl
    · exact .inr ⟨c, d⟩
    · exact .inr ⟨a, b⟩
    · exact .inr ⟨a, d⟩, fun g => Nat.le_trans (h.le g) (k.le g), fun g hg => k.fz g (h.fz g hg)⟩
theorem eW.not_plain {w : World} {F : Fr} {c : Fl m} {es : List (List (aF m))} {v : Value} (h : eW w F N (.sl c es) v) : aA0 v = false := by cases h; rfl
theorem aPc {w w' : World} {F F' : Fr} (k : hM N w F w' F') {ls : List (aF m)} {vals : List Value} {g o : Nat} (hl : vals.length = ls.length) (hle : o + vals.length ≤ F g) (hs : N.Z g = true → ∀ l ∈ ls, l.soft = true)
    (hc : ∀ (j : Nat) (v : Value), vals[j]? = some v → w.cell? ⟨g, o + j, none⟩ = some v) (hr : ∀ (j : Nat) (l : (aF m)) (v : Value), ls[j]? = some l → vals[j]? = some v → eW w F N l v ∧ eW w' F' N l v) :
    ∃ vals' : List Value, vals'.length = vals.length ∧ (∀ (j : Nat) (v : Value), vals'[j]? = some v → w'.cell? ⟨g, o + j, none⟩ = some v) ∧ (∀ (j : Nat) (l : (aF m)) (v : Value), ls[j]? = some l → vals'[j]? = some v → eW w' F' N l v) := by
  cases hZ : N.Z g with
  | false => exact ⟨vals, rfl, fun j v hj => by
      have hj' := (List.getElem?_eq_some_iff.1 hj).1
      rw [k.hard g (o + j) (by omega) hZ]
      exact hc j v hj, fun j l v a b => (hr j l v a b).2⟩
  | true =>
    have key : ∀ (j : Nat) (v : Value), vals[j]? = some v → ∃ v', w'.cell? ⟨g, o + j, none⟩ = some v' ∧ (v' = v ∨ (aA0 v = true ∧ aA0 v' = true)) := fun j v hj => by
      have hj' := (List.getElem?_eq_some_iff.1 hj).1
      exact k.soft g (o + j) v (by omega) (hc j v hj)
    refine ⟨(List.range vals.length).map fun j => (w'.cell? ⟨g, o + j, none⟩).getD undef, by simp, fun j v hj => ?_, fun j l v hl' hj => ?_⟩
    · have hj' : j < vals.length := by have := (List.getElem?_eq_some_iff.1 hj).1; simpa using this
      obtain ⟨v', h1, _⟩ := key j _ (List.getElem?_eq_getElem hj')
      simp only [List.getElem?_map, List.getElem?_range hj', Option.map_some, h1, Option.getD_some, Option.some.injEq] at hj
      rw [h1, hj]
    · have hj' : j < vals.length := by have := (List.getElem?_eq_some_iff.1 hj).1; simpa using this
      obtain ⟨v', h1, h2⟩ := key j _ (List.getElem?_eq_getElem hj')
      simp only [List.getElem?_map, List.getElem?_range hj', Option.map_some, h1, Option.getD_some, Option.some.injEq] at hj
      subst hj
      obtain ⟨h00, h0⟩ := hr j l _ hl' (List.getElem?_eq_getElem hj')
      rcases h2 with h2 | ⟨h2, h3⟩
      · rw [h2]; exact h0
      · have hso := hs hZ l (List.mem_of_getElem? hl')
        cases l with
        | unk => exact .unk _ h3
        | sl c es => rw [h00.not_plain] at h2; simp at h2
        | _ => simp [aF.soft] at hso
theorem eW.keeps {w w' : World} {F F' : Fr} (k : hM N w F w' F') {l : (aF m)} {v : Value} (h : eW w F N l v) : eW w' F' N l v := by
  induction h with
  | bool b => exact .bool b
  | int k n => exact .int k n
  | str s => exact .str s
  | unk v h => exact .unk v h
  | nl e => exact .nl e
  | sl c es A cap z vals hc hz hv hcell hr ih =>
    by_cases hpos : 0 < es.length
    · obtain ⟨g, o, e, hn, hle, hso, hcells⟩ := hcell hpos
      have hfl : vals.length = es.flatten.length := by rw [hv, List.length_flatten, show es.map List.length = List.replicate es.length z from List.eq_replicate_iff.2 ⟨by simp, by simpa using hz⟩, List.sum_replicate_nat]
      obtain ⟨vals', h1, h2, h3⟩ := aPc k hfl hle hso.2 hcells fun j l v a b => ⟨hr j l v a b, ih j l v a b⟩
      exact .sl c es A cap z vals' hc hz (h1.trans hv) (fun _ => ⟨g, o, e, ⟨by rw [h1]; exact hn.1, hn.2.to (k.fz g)⟩, by rw [h1]; exact Nat.le_trans hle (k.le g), hso, h2⟩) h3
    · exact .sl c es A cap z vals hc hz hv (fun h => absurd h hpos) ih
theorem eW.one {w : World} {F : Fr} {l : (aF m)} {v : Value} (h : eW w F N l v) : v.oneCell' = true := by
  cases h <;> try rfl
  rename_i h; cases v <;> first | rfl | simp [aA0] at h
theorem eW.cells {w : World} {F : Fr} {l : (aF m)} {v : Value} (h : eW w F N l v) : v.cells = #[v] := by
  cases h <;> try rfl
  rename_i h; cases v <;> first | rfl | simp [aA0] at h
def dJ (w : World) (F : Fr) (N : Env) (ls : List (aF m)) (vs : List Value) : Prop := vs.length = ls.length ∧ ∀ (j : Nat) (l : (aF m)) (v : Value), ls[j]? = some l → vs[j]? = some v → eW w F N l v
theorem dJ.keeps {w w' : World} {F F' : Fr} (k : hM N w F w' F') {ls : List (aF m)} {vs : List Value} (h : dJ w F N ls vs) : dJ w' F' N ls vs :=
  ⟨h.1, fun j l v a b => (h.2 j l v a b).keeps k⟩
theorem dJ.nil (w : World) (F : Fr) (N : Env) : dJ w F N ([] : List (aF m)) [] := ⟨rfl, fun j l v h => by simp at h⟩
theorem dJ.cons {w : World} {F : Fr} {l : (aF m)} {v : Value} {ls : List (aF m)} {vs : List Value} (h : eW w F N l v) (hs : dJ w F N ls vs) : dJ w F N (l :: ls) (v :: vs) := by
  refine ⟨by simp [hs.1], fun j l' v' a b => ?_⟩
  cases j with
  | zero => simp at a b; subst a b; exact h
  | succ j => simp at a b; exact hs.2 j l' v' a b
theorem dJ.uncons {w : World} {F : Fr} {l : (aF m)} {ls : List (aF m)} {vs : List Value} (h : dJ w F N (l :: ls) vs) : ∃ v r, vs = v :: r ∧ eW w F N l v ∧ dJ w F N ls r := by
  cases vs with
  | nil => simp [dJ] at h
  | cons v r => exact ⟨v, r, rfl, h.2 0 l v rfl rfl, by simpa using h.1, fun j l' v' a b => h.2 (j + 1) l' v' (by simpa using a) (by simpa using b)⟩
theorem dJ.append {w : World} {F : Fr} {a b : List (aF m)} {x y : List Value} (h : dJ w F N a x) (k : dJ w F N b y) : dJ w F N (a ++ b) (x ++ y) := by
  induction a generalizing x with
  | nil => obtain rfl : x = [] := List.eq_nil_of_length_eq_zero h.1; simpa using k
  | cons l a ih =>
    obtain ⟨v, r, rfl, h1, h2⟩ := h.uncons
    exact dJ.cons h1 (ih h2)
theorem dJ.drop {w : World} {F : Fr} {a : List (aF m)} {x : List Value} (h : dJ w F N a x) (n : Nat) : dJ w F N (a.drop n) (x.drop n) :=
  ⟨by simp [h.1], fun j l v p q => h.2 (n + j) l v (by simpa using p) (by simpa using q)⟩
theorem dJ.take {w : World} {F : Fr} {a : List (aF m)} {x : List Value} (h : dJ w F N a x) (n : Nat) : dJ w F N (a.take n) (x.take n) := by
  refine ⟨by simp [h.1], fun j l v p q => ?_⟩
  rw [List.getElem?_take] at p q
  split at p
  · rename_i hj; simp only [hj, if_true] at q; exact h.2 j l v p q
  · simp at p
theorem dJ.get {w : World} {F : Fr} {a : List (aF m)} {x : List Value} (h : dJ w F N a x) {j : Nat} {l : (aF m)} (hl : a[j]? = some l) : ∃ v, x[j]? = some v ∧ eW w F N l v := by
  have hj : j < x.length := by rw [h.1]; exact (List.getElem?_eq_some_iff.1 hl).1
  exact ⟨x[j], List.getElem?_eq_getElem hj, h.2 j l _ hl (List.getElem?_eq_getElem hj)⟩
theorem dJ.one {w : World} {F : Fr} {a : List (aF m)} {x : List Value} (h : dJ w F N a x) : ∀ v ∈ x, v.oneCell' = true := by
  intro v hv
  obtain ⟨j, hj, rfl⟩ := List.getElem_of_mem hv
  have hj' : j < a.length := by rw [← h.1]; exact hj
  exact (h.2 j a[j] _ (List.getElem?_eq_getElem hj') (List.getElem?_eq_getElem hj)).one
theorem aG6 {w : World} {F : Fr} {c : Fl m} {es : List (List (aF m))} {v : Value} (h : eW w F N (.sl c es) v) :
    ∃ A cap z vals, v = .slice A es.length cap ∧ es.length ≤ cap ∧ (∀ e ∈ es, e.length = z) ∧ vals.length = es.length * z ∧
      (0 < es.length → ∃ g o, A = some ⟨g, o, none⟩ ∧ (0 < vals.length ∧ c.Holds N w g o) ∧ o + vals.length ≤ F g ∧ ((c.isSoft = true → N.Z g = true) ∧ (N.Z g = true → ∀ l ∈ es.flatten, l.soft = true)) ∧ ∀ (j : Nat) (v : Value), vals[j]? = some v → w.cell? ⟨g, o + j, none⟩ = some v) ∧ dJ w F N es.flatten vals := by
  cases h with
  | sl c es A cap z vals hc hz hv hcell hrep =>
    exact ⟨A, cap, z, vals, rfl, hc, hz, hv, hcell, by rw [hv, List.length_flatten, show es.map List.length = List.replicate es.length z from List.eq_replicate_iff.2 ⟨by simp, by simpa using hz⟩, List.sum_replicate_nat], hrep⟩
theorem gQ {es : List (List (aF m))} {z : Nat} (hz : ∀ e ∈ es, e.length = z) : es.flatten.length = es.length * z := by
  rw [List.length_flatten, show es.map List.length = List.replicate es.length z from List.eq_replicate_iff.2 ⟨by simp, by simpa using hz⟩, List.sum_replicate_nat]
theorem qW {w : World} {F : Fr} {c : Fl m} {es : List (List (aF m))} {A : Option Addr} {cap z : Nat} {vals : List Value} (hc : es.length ≤ cap) (hz : ∀ e ∈ es, e.length = z)
    (hcell : 0 < es.length → ∃ g o, A = some ⟨g, o, none⟩ ∧ (0 < vals.length ∧ c.Holds N w g o) ∧ o + vals.length ≤ F g ∧ ((c.isSoft = true → N.Z g = true) ∧ (N.Z g = true → ∀ l ∈ es.flatten, l.soft = true)) ∧ ∀ (j : Nat) (v : Value), vals[j]? = some v → w.cell? ⟨g, o + j, none⟩ = some v) (hr : dJ w F N es.flatten vals) : eW w F N (.sl c es) (.slice A es.length cap) :=
  .sl c es A cap z vals hc hz (by rw [hr.1, gQ hz]) hcell hr.2
def eP (w : World) (F : Fr) (N : Env) (bm : Nat → Nat) (al : Nat → Bool) : (SV m) → Value → Prop
  | .any, _ => True
  | .skip, v => v = undef
  | .leaf l, v => eW w F N l v
  | .agg cs, v => ∃ vs, v = .agg vs ∧ dJ w F N cs vs.toList
  | .ptr b o, v => v = .pointer (some ⟨bm b, o, none⟩) ∧ al b = true
  | .bsl b z lo n, v => ∃ cap, v = .slice (some ⟨bm b, lo * z, none⟩) n cap ∧ n ≤ cap ∧ al b = true
  | .eptr c e o, v => ∃ g p vals, v = .pointer (some ⟨g, p + o, none⟩) ∧ p + e.length ≤ F g ∧ (c.At N g ∧ (N.Z g = true → ∀ l ∈ e, l.soft = true)) ∧ dJ w F N e vals ∧ ∀ (j : Nat) (u : Value), vals[j]? = some u → w.cell? ⟨g, p + j, none⟩ = some u
  | .nilptr, v => v = .pointer none
  | .nilface, v => v = .nilIface
  | _, _ => False
def yG (P : Program) (w : World) (F : Fr) (N : Env) (Ow : Own) (loc : Loc) (eo : Option TypeId) (es : List (List (aF m))) (v : Value) : Prop :=
  (v = .slice none 0 0 ∧ es = []) ∨
  ∃ g cap cur e i vals, N.n ≤ g ∧ eo = some e ∧ P.info? e = some i ∧ 0 < i.size ∧ v = .slice (some ⟨g, 0, none⟩) es.length cap ∧ w.heap[g]? = some (.cells cur e (0, 0)) ∧ es.length ≤ cap ∧ cap ≤ maxLen ∧ cur.size = cap * i.size ∧
    (∀ x ∈ es, x.length = i.size) ∧ Ow g = some loc ∧ F g = es.length * i.size ∧ cur.toList.take (es.length * i.size) = vals ∧ dJ w F N es.flatten vals
def bD (P : Program) (w : World) (F : Fr) (N : Env) (Ow : Own) (bm : Nat → Nat) (al : Nat → Bool) (loc : Loc) : (SV m) → Value → Prop
  | .own eo es, v => yG P w F N Ow loc eo es v
  | .fn f caps, v => ∃ vs, v = .func (.func f) #[] vs ∧ vs.size = caps.length ∧ ∀ (j : Nat) (c : (SV m)) (u : Value), caps[j]? = some c → vs[j]? = some u → eP w F N bm al c u
  | .tup cs, v => ∃ vs, v = .tuple vs ∧ vs.size = cs.length ∧ ∀ (j : Nat) (c : (SV m)) (u : Value), cs[j]? = some c → vs[j]? = some u → eP w F N bm al c u
  | x, v => eP w F N bm al x v
theorem eP.keeps {w w' : World} {F F' : Fr} {bm : Nat → Nat} {al : Nat → Bool} (k : hM N w F w' F') {x : (SV m)} {v : Value} (h : eP w F N bm al x v) : eP w' F' N bm al x v := by
  cases x <;> simp only [eP] at h ⊢ <;> try exact h
  · exact h.keeps k
  · obtain ⟨vs, e, hr⟩ := h; exact ⟨vs, e, hr.keeps k⟩
  · obtain ⟨g, p, vals, e, hle, hso, hr, hc⟩ := h
    obtain ⟨vals', h1, h2, h3⟩ := aPc k hr.1 (by rw [hr.1]; exact hle) hso.2 hc fun j l v a b => ⟨hr.2 j l v a b, (hr.keeps k).2 j l v a b⟩
    exact ⟨g, p, vals', e, Nat.le_trans hle (k.le g), hso, ⟨h1.trans hr.1, h3⟩, h2⟩
theorem eP.boxes {w : World} {F : Fr} {bm bm' : Nat → Nat} {al al' : Nat → Bool} {x : (SV m)} {v : Value} (h : eP w F N bm al x v) (hb : ∀ b, al b = true → bm' b = bm b ∧ al' b = true) : eP w F N bm' al' x v := by
  cases x <;> simp only [eP] at h ⊢ <;> try exact h
  · obtain ⟨e, ha⟩ := h
    obtain ⟨h1, h2⟩ := hb _ ha
    exact ⟨by rw [h1]; exact e, h2⟩
  · obtain ⟨cap, e, hc, ha⟩ := h
    obtain ⟨h1, h2⟩ := hb _ ha
    exact ⟨cap, by rw [h1]; exact e, hc, h2⟩
theorem yG.keeps {P : Program} {w w' : World} {F F' : Fr} {Ow Ow' : Own} {loc loc' : Loc} {eo : Option TypeId} {es : List (List (aF m))} {v : Value} (k : hM N w F w' F') (h : yG P w F N Ow loc eo es v)
    (hb : ∀ g, Ow g = some loc → w'.heap[g]? = w.heap[g]? ∧ F' g = F g ∧ Ow' g = some loc') : yG P w' F' N Ow' loc' eo es v := by
  rcases h with h | ⟨g, cap, cur, e, i, vals, hn, he, hi, hz, hv, hg, hc, hm, hs, hx, ho, hf, ht, hr⟩
  · exact .inl h
  · obtain ⟨b1, b2, b3⟩ := hb g ho
    exact .inr ⟨g, cap, cur, e, i, vals, hn, he, hi, hz, hv, b1.trans hg, hc, hm, hs, hx, b3, b2.trans hf, ht, hr.keeps k⟩
theorem bD.keeps {P : Program} {w w' : World} {F F' : Fr} {Ow Ow' : Own} {bm bm' : Nat → Nat} {al al' : Nat → Bool} {loc loc' : Loc} {x : (SV m)} {v : Value} (k : hM N w F w' F') (h : bD P w F N Ow bm al loc x v)
    (hp : ∀ b, al b = true → bm' b = bm b ∧ al' b = true) (hb : ∀ g, Ow g = some loc → w'.heap[g]? = w.heap[g]? ∧ F' g = F g ∧ Ow' g = some loc') : bD P w' F' N Ow' bm' al' loc' x v := by
  cases x
  case own eo es => exact yG.keeps k h hb
  case fn f caps => obtain ⟨vs, e, hs, hc⟩ := h; exact ⟨vs, e, hs, fun j c u a b => ((hc j c u a b).keeps k).boxes hp⟩
  case tup cs => obtain ⟨vs, e, hs, hc⟩ := h; exact ⟨vs, e, hs, fun j c u a b => ((hc j c u a b).keeps k).boxes hp⟩
  all_goals (simp only [bD] at h ⊢; exact (eP.keeps k h).boxes hp)
theorem yG.leaf {P : Program} {w : World} {F : Fr} {Ow : Own} {loc : Loc} {eo : Option TypeId} {es : List (List (aF m))} {v : Value} (h : yG P w F N Ow loc eo es v) : eW w F N (.sl (Fl.new m) es) v := by
  rcases h with ⟨rfl, rfl⟩ | ⟨g, cap, cur, e, i, vals, hn, he, hi, hz, rfl, hg, hc, hm, hs, hx, ho, hf, ht, hr⟩
  · exact qW (es := []) (z := 0) (vals := []) (Nat.le_refl _) (by simp) (fun h => by simp at h) (dJ.nil _ _ _)
  · refine qW hc hx (fun hpos => ⟨g, 0, rfl, ⟨by rw [hr.1, gQ hx]; exact Nat.mul_pos (by assumption) hz, Fl.Holds.mk_new hn ⟨cur, e, hg⟩⟩, ?_, ⟨fun h => by rw [Fl.soft_new] at h; simp at h, fun hz => absurd (N.lt g hz) (Nat.not_lt.2 hn)⟩, fun j v hj => ?_⟩) hr
    · rw [hr.1, gQ hx, hf]; omega
    · subst ht
      rw [List.getElem?_take] at hj
      split at hj
      · simp only [World.cell?, hg]; simpa using hj
      · simp at hj
theorem bD.drop {P : Program} {w : World} {F : Fr} {Ow Ow' : Own} {bm : Nat → Nat} {al : Nat → Bool} {loc loc' : Loc} {x : (SV m)} {v : Value} (h : bD P w F N Ow bm al loc x v) : bD P w F N Ow' bm al loc' x.drop v := by
  cases x
  case own eo es => exact yG.leaf h
  all_goals exact h
structure Low (N : Env) (w : World) (F : Fr) : Prop where
  le : N.n ≤ w.heap.size
  know : ∀ k ∈ N.K, k.1.2 < F k.1.1 ∧ N.Z k.1.1 = false ∧ w.cell? ⟨k.1.1, k.1.2, none⟩ = some k.2
theorem Low.to {w w' : World} {F F' : Fr} (h : Low N w F) (hk : hM N w F w' F') (hs : w.heap.size ≤ w'.heap.size) : Low N w' F' :=
  ⟨Nat.le_trans h.le hs, fun k hm => by
    obtain ⟨h1, h2, h3⟩ := h.know k hm
    exact ⟨Nat.lt_of_lt_of_le h1 (hk.le _), h2, by rw [hk.hard _ _ h1 h2]; exact h3⟩⟩
structure Inv (P : Program) (s : (St m)) (tmps : Array Value) (w : World) (F : Fr) (N : Env) (Ow : Own) (bm : Nat → Nat) : Prop where
  len : s.tmps.length = tmps.size
  slot : ∀ t, bD P w F N Ow bm (fun b => (bP s.boxes b).isSome) (.tmp t) (s.tmps.getD t .any) (tmps.getD t undef)
  box : ∀ b cs, bP s.boxes b = some cs → ∃ cur e, w.heap[bm b]? = some (.cells cur e (0, 0)) ∧ cur.size = cs.length ∧ F (bm b) = 0 ∧ Ow (bm b) = some (.blk b) ∧
    ∀ (j : Nat) (c : (SV m)) (u : Value), cs[j]? = some c → cur[j]? = some u → bD P w F N Ow bm (fun b => (bP s.boxes b).isSome) (.box b j) c u
  low : Low N w F
  new : ∀ g, w.heap.size ≤ g → F g = 0 ∧ Ow g = none
  bmn : ∀ b cs, bP s.boxes b = some cs → N.n ≤ bm b
  zow : ∀ g, N.Z g = true → Ow g = none ∧ ∃ cur e, w.heap[g]? = some (.cells cur e (0, 0))
structure Far (N : Env) (w : World) (F : Fr) (Ow : Own) (w' : World) (F' : Fr) (Ow' : Own) : Prop where
  os : w'.os = w.os
  tape : w'.tape = w.tape
  output : w'.output = w.output
  size : w.heap.size ≤ w'.heap.size
  keeps : hM N w F w' F'
  old : ∀ g, g < w.heap.size → Ow g = none → (N.Z g = false → w'.heap[g]? = w.heap[g]?) ∧ F' g = F g ∧ Ow' g = none
theorem Far.refl (w : World) (F : Fr) (Ow : Own) : Far N w F Ow w F Ow := ⟨rfl, rfl, rfl, Nat.le_refl _, hM.refl _ _, fun _ _ h => ⟨fun _ => rfl, rfl, h⟩⟩
theorem Far.trans {w w1 w2 : World} {F F1 F2 : Fr} {O O1 O2 : Own} (h : Far N w F O w1 F1 O1) (k : Far N w1 F1 O1 w2 F2 O2) : Far N w F O w2 F2 O2 :=
  ⟨k.os.trans h.os, k.tape.trans h.tape, k.output.trans h.output, Nat.le_trans h.size k.size, h.keeps.trans k.keeps, fun g hg ho => by
    obtain ⟨a, b, c⟩ := h.old g hg ho
    obtain ⟨a', b', c'⟩ := k.old g (Nat.lt_of_lt_of_le hg h.size) c
    exact ⟨fun hz => (a' hz).trans (a hz), b'.trans b, c'⟩⟩
end Go.Vs
end
section
namespace Go.Vs
variable {m : Bool}
variable {P : Program} {w : World} {F : Fr} {N : Env}
def aTt : TypeDesc → Bool | .struct _ | .array _ _ => true | _ => false
theorem aBu {t : TypeId} {d : TypeDesc} (h : P.underlying t = some d) : (isAgg t).run P w = .ok (aTt d) w := by
  simp only [isAgg, Sem.run_bind, run_underlying h, Result.andThen_ok]
  cases d <;> rfl
theorem nB {t : TypeId} {i : TypeInfo} (h : P.info? t = some i) : (sizeOf t).run P w = .ok i.size w := by
  simp [sizeOf, typeInfo, h]
theorem mZ {k : IntKind} {n : Int} {v : Value} (h : eW (m := m) w F N (.int k n) v) : v = .int k n := by cases h; rfl
theorem tP {b : Bool} {v : Value} (h : eW (m := m) w F N (.bool b) v) : v = .bool b := by cases h; rfl
theorem uJ {s : ByteArray} {v : Value} (h : eW (m := m) w F N (.str s) v) : v = .string s := by cases h; rfl
theorem aS7 {op : BinOp} {k : IntKind} {a b : Int} {l : (aF m)} (t : TypeId) (h : aE8 op k a b = some l) (hop : op ≠ .shl ∧ op ≠ .shr) :
    ∃ v, (binOp op t (.int k a) (.int k b)).run P w = .ok v w ∧ eW w F N l v := by
  cases op <;> simp only [aE8] at h <;> simp at hop <;> try (simp at h; done)
  all_goals try (simp only [Option.some.injEq] at h; subst h)
  case add => exact ⟨_, by simp [binOp, Op.intArith], .int _ _⟩
  case sub => exact ⟨_, by simp [binOp, Op.intArith], .int _ _⟩
  case mul => exact ⟨_, by simp [binOp, Op.intArith], .int _ _⟩
  case quo =>
    split at h
    · simp at h
    · simp only [Option.some.injEq] at h; subst h; rename_i hb; exact ⟨_, by simp [binOp, Op.intDiv, hb], .int _ _⟩
  case rem =>
    split at h
    · simp at h
    · simp only [Option.some.injEq] at h; subst h; rename_i hb; exact ⟨_, by simp [binOp, Op.intDiv, hb], .int _ _⟩
  case and => exact ⟨_, by simp [binOp, Op.intBits], .int _ _⟩
  all_goals exact ⟨_, by simp [binOp, Op.intCmp], .bool _⟩
theorem aUT {op : BinOp} {k k' : IntKind} {a b : Int} {l : (aF m)} (t : TypeId) (h : aE8 op k a b = some l) (hop : op = .shl ∨ op = .shr) :
    ∃ v, (binOp op t (.int k a) (.int k' b)).run P w = .ok v w ∧ eW w F N l v := by
  rcases hop with rfl | rfl <;> simp only [aE8] at h <;> split at h <;> simp at h <;> subst h <;> rename_i hb
  · exact ⟨_, by simp [binOp, Op.shift, hb], .int _ _⟩
  · exact ⟨_, by simp [binOp, Op.shift, hb], .int _ _⟩
theorem aTP {op : BinOp} {a b : ByteArray} {l : (aF m)} (t : TypeId) (h : aPn op a b = some l) :
    ∃ v, (binOp op t (.string a) (.string b)).run P w = .ok v w ∧ eW w F N l v := by
  cases op <;> simp only [aPn] at h <;> try (simp at h; done)
  case add =>
    split at h
    · rename_i hs
      simp at h; subst h
      exact ⟨_, by simp only [binOp]; exact run_string_add_sum (P := P) (w := w) a b (by omega), .str _⟩
    · simp at h
  all_goals (simp only [Option.some.injEq] at h; subst h; exact ⟨_, by simp only [binOp, Op.stringOp, Sem.run_pure], .bool _⟩)
theorem aRX {d : Nat} {a b : Bool} {t : TypeId} (ht : P.underlying t = some .bool) : (Op.equalIn (d + 1) t (.bool a) (.bool b)).run P w = .ok (a == b) w := by
  simp [Op.equalIn, run_underlying ht]
theorem aRN {op : BinOp} {a b : Bool} {l : (aF m)} {t : TypeId} (ht : P.underlying t = some .bool) (h : aSt op a b = some l) :
    ∃ v, (binOp op t (.bool a) (.bool b)).run P w = .ok v w ∧ eW w F N l v := by
  cases op <;> simp only [aSt] at h <;> try (simp at h; done)
  all_goals
    simp only [Option.some.injEq] at h
    subst h
    have he : (Op.equal t (.bool a) (.bool b)).run P w = .ok (a == b) w := aRX (d := 9999) ht
  · exact ⟨.bool (a == b), by
      rw [show binOp .eql t (.bool a) (.bool b) = (do pure (.bool (← Op.equal t (.bool a) (.bool b)))) from rfl]
      simp [he], .bool _⟩
  · exact ⟨.bool (!(a == b)), by
      rw [show binOp .neq t (.bool a) (.bool b) = (do pure (.bool (!(← Op.equal t (.bool a) (.bool b))))) from rfl]
      simp [he], .bool _⟩
theorem aNF {t : TypeId} {cs : Array Value} {j : Nat} {v : Value} {d : TypeDesc} (hu : P.underlying t = some d) (hd : aTt d = false) (h : cs[j]? = some v) :
    (part t cs j).run P w = .ok v w := by
  simp [part, aBu hu, hd, h]
theorem aRZ {t : TypeId} {a b : (aF m)} {e : Bool} {d : Nat} {u v : Value} (h : aRH P t a b = some e) (ha : eW w F N a u) (hb : eW w F N b v) :
    (Op.equalIn (d + 1) t u v).run P w = .ok e w ∧ ∃ d', P.underlying t = some d' ∧ aTt d' = false := by
  unfold aRH at h
  split at h
  · rename_i hu
    split at h
    · rename_i hk; subst hk
      simp only [Option.some.injEq] at h; subst h
      cases mZ ha; cases mZ hb
      exact ⟨by simp [Op.equalIn, run_underlying hu], _, hu, rfl⟩
    · simp at h
  · rename_i hu
    simp only [Option.some.injEq] at h; subst h
    cases tP ha; cases tP hb
    exact ⟨by simp [Op.equalIn, run_underlying hu], _, hu, rfl⟩
  · rename_i hu
    simp only [Option.some.injEq] at h; subst h
    cases uJ ha; cases uJ hb
    exact ⟨by simp [Op.equalIn, run_underlying hu], _, hu, rfl⟩
  · simp at h
theorem aHO {d : Nat} {xs ys : Array Value} : ∀ (fs : List Field) (j : Nat) (a b : List (aF m)) (e : Bool), wR P j fs a b = some e →
    dJ w F N a (xs.toList.drop j) → dJ w F N b (ys.toList.drop j) → (Op.eqFields (d + 1) xs ys fs).run P w = .ok e w
  | [], j, [], [], e, h, _, _ => by simp [wR] at h; subst h; simp [Op.eqFields]
  | [], _, [], _ :: _, _, h, _, _ | [], _, _ :: _, _, _, h, _, _ => by simp [wR] at h
  | _ :: _, _, [], _, _, h, _, _ => by simp [wR] at h
  | _ :: _, _, _ :: _, [], _, h, _, _ => by simp [wR] at h
  | f :: fs, j, a :: x, b :: y, e, h, ha, hb => by
    simp only [wR] at h
    split at h
    · rename_i hf
      simp only [Bool.and_eq_true, beq_iff_eq, bne_iff_ne, ne_eq] at hf
      obtain ⟨hoff, hn⟩ := hf
      rw [Option.bind_eq_some_iff] at h
      obtain ⟨e1, h1, h2⟩ := h
      rw [Option.map_eq_some_iff] at h2
      obtain ⟨e2, h3, rfl⟩ := h2
      obtain ⟨u, xs', hx, hu1, hx1⟩ := ha.uncons
      obtain ⟨v, ys', hy, hv1, hy1⟩ := hb.uncons
      obtain ⟨he, d', hd1, hd2⟩ := aRZ (d := d) h1 hu1 hv1
      have gx : xs[j]? = some u := by
        have := congrArg (·[0]?) hx
        simpa using this
      have gy : ys[j]? = some v := by
        have := congrArg (·[0]?) hy
        simpa using this
      have tx : xs.toList.drop (j + 1) = xs' := by rw [← List.drop_drop, hx]; rfl
      have ty : ys.toList.drop (j + 1) = ys' := by rw [← List.drop_drop, hy]; rfl
      have ih := aHO (d := d) fs (j + 1) x y e2 h3 (by rw [tx]; exact hx1) (by rw [ty]; exact hy1)
      have px : (part f.type xs f.offset).run P w = .ok u w := by rw [hoff]; exact aNF hd1 hd2 gx
      have py : (part f.type ys f.offset).run P w = .ok v w := by rw [hoff]; exact aNF hd1 hd2 gy
      rw [Op.eqFields]
      simp only [if_pos hn, Sem.run_bind, px, py, he, Result.andThen_ok]
      cases e1
      · simp
      · simpa using ih
    · simp at h
theorem aH3 {t : TypeId} {a b : List (aF m)} {e : Bool} {xs ys : Array Value} (h : aHg P t a b = some e) (ha : dJ w F N a xs.toList) (hb : dJ w F N b ys.toList) :
    (Op.equal t (.agg xs) (.agg ys)).run P w = .ok e w ∧ P.eqGuardType P.depth t = false := by
  unfold aHg at h
  split at h
  · rename_i fs hu
    split at h
    · simp at h
    · rename_i hg
      simp only [Bool.or_eq_true, not_or, Bool.not_eq_true] at hg
      refine ⟨?_, hg.2⟩
      have hf : P.fieldsOf t = fs := by simp [Program.fieldsOf, hu]
      unfold Op.equal Op.maxDepth
      rw [run_equalIn_struct (P := P) w 9999 t xs ys (by rw [hf]; exact hu) hg.1, hf]
      exact aHO (d := 9998) fs.toList 0 a b e h (by simpa using ha) (by simpa using hb)
  · simp at h
theorem aAX {op : BinOp} {t : TypeId} {x y : Operand} {u v : Value} (hu : u ≠ .nilIface) (ha : ∀ c, u ≠ .agg c) : (eqGuard op t x y u v).run P w = .ok () w := by
  cases op <;> try rfl
  all_goals (cases u <;> first | rfl | exact absurd rfl hu | exact absurd rfl (ha _))
theorem aUS {op : BinOp} {t : TypeId} {x y : (SV m)} {v : (SV m)} {u u' : Value} {o o' : Operand} (h : aPN P op t x y = some v)
    (hx : ∀ l, x.drop = .leaf l → eW w F N l u) (hy : ∀ l, y.drop = .leaf l → eW w F N l u')
    (hxa : ∀ cs, x.drop = .agg cs → ∃ vs, u = .agg vs ∧ dJ w F N cs vs.toList) (hya : ∀ cs, y.drop = .agg cs → ∃ vs, u' = .agg vs ∧ dJ w F N cs vs.toList) :
    ∃ z, (do eqGuard op t o o' u u'; binOp op t u u').run P w = .ok z w ∧ ∃ l, v = .leaf l ∧ eW w F N l z := by
  unfold aPN at h
  split at h
  · rename_i k a k' b ex ey
    cases mZ (hx _ ex); cases mZ (hy _ ey)
    have hg : (eqGuard op t o o' (.int k a) (.int k' b)).run P w = .ok () w := aAX (by simp) (by simp)
    simp only [Sem.run_bind, hg, Result.andThen_ok]
    split at h
    · rename_i hop
      rw [Option.map_eq_some_iff] at h
      obtain ⟨l, hl, rfl⟩ := h
      obtain ⟨z, h1, h2⟩ := aUT (P := P) (w := w) (F := F) (N := N) (k' := k') t hl (by cases op <;> simp [aNa] at hop ⊢)
      exact ⟨z, h1, l, rfl, h2⟩
    · rename_i hop
      split at h
      · rename_i hk; subst hk
        rw [Option.map_eq_some_iff] at h
        obtain ⟨l, hl, rfl⟩ := h
        obtain ⟨z, h1, h2⟩ := aS7 (P := P) (w := w) (F := F) (N := N) t hl (by constructor <;> rintro rfl <;> simp [aNa] at hop)
        exact ⟨z, h1, l, rfl, h2⟩
      · simp at h
  · rename_i a b ex ey
    cases uJ (hx _ ex); cases uJ (hy _ ey)
    have hg : (eqGuard op t o o' (.string a) (.string b)).run P w = .ok () w := aAX (by simp) (by simp)
    simp only [Sem.run_bind, hg, Result.andThen_ok]
    rw [Option.map_eq_some_iff] at h
    obtain ⟨l, hl, rfl⟩ := h
    obtain ⟨z, h1, h2⟩ := aTP (P := P) (w := w) (F := F) (N := N) t hl
    exact ⟨z, h1, l, rfl, h2⟩
  · rename_i a b ex ey
    cases tP (hx _ ex); cases tP (hy _ ey)
    have hg : (eqGuard op t o o' (.bool a) (.bool b)).run P w = .ok () w := aAX (by simp) (by simp)
    simp only [Sem.run_bind, hg, Result.andThen_ok]
    split at h
    · rename_i hb
      have ht : P.underlying t = some .bool := by unfold aSV at hb; split at hb <;> simp_all
      rw [Option.map_eq_some_iff] at h
      obtain ⟨l, hl, rfl⟩ := h
      obtain ⟨z, h1, h2⟩ := aRN (P := P) (w := w) (F := F) (N := N) ht hl
      exact ⟨z, h1, l, rfl, h2⟩
    · simp at h
  · rename_i a b ex ey
    obtain ⟨xs, rfl, rx⟩ := hxa _ ex
    obtain ⟨ys, rfl, ry⟩ := hya _ ey
    split at h
    · rw [Option.map_eq_some_iff] at h
      obtain ⟨e, he, rfl⟩ := h
      obtain ⟨h1, h2⟩ := aH3 he rx ry
      exact ⟨.bool e, by simp [eqGuard, h2, binOp, h1], _, rfl, .bool _⟩
    · rw [Option.map_eq_some_iff] at h
      obtain ⟨e, he, rfl⟩ := h
      obtain ⟨h1, h2⟩ := aH3 he rx ry
      exact ⟨.bool !e, by simp [eqGuard, h2, binOp, h1], _, rfl, .bool _⟩
    · simp at h
  · simp at h
end Go.Vs
end
section
namespace Go.Vs
variable {m : Bool}
variable {P : Program} {w : World} {F : Fr} {N : Env}
theorem bW {β : Type} {b : Bool} {x : Option β} {y : β} (h : aB b x = some y) : b = true ∧ x = some y := by
  cases b
  · simp [aB] at h
  · exact ⟨rfl, h⟩
theorem aKU {n : Nat} {es : List (List (aF m))} (h : sized n es = true) : ∀ e ∈ es, e.length = n := by
  intro e he
  have := List.all_eq_true.1 h e he
  simpa using this
theorem aEp {z : Nat} : ∀ (es : List (List (aF m))) (n : Nat), (∀ e ∈ es, e.length = z) → (es.drop n).flatten = es.flatten.drop (n * z)
  | [], n, _ => by simp
  | e :: es, 0, _ => by simp
  | e :: es, n + 1, h => by
    rw [List.drop_succ_cons, aEp es n (fun x hx => h x (List.mem_cons_of_mem _ hx)), List.flatten_cons, List.drop_append]
    have := h e List.mem_cons_self
    rw [List.drop_eq_nil_of_le (as := e) (by rw [Nat.add_mul]; omega), List.nil_append]
    congr 1
    rw [Nat.add_mul]; omega
theorem aKn {z : Nat} : ∀ (es : List (List (aF m))) (n : Nat), (∀ e ∈ es, e.length = z) → (es.take n).flatten = es.flatten.take (n * z)
  | [], n, _ => by simp
  | e :: es, 0, _ => by simp
  | e :: es, n + 1, h => by
    rw [List.take_succ_cons, List.flatten_cons, aKn es n (fun x hx => h x (List.mem_cons_of_mem _ hx)), List.flatten_cons, List.take_append]
    have := h e List.mem_cons_self
    rw [List.take_of_length_le (l := e) (by rw [Nat.add_mul]; omega)]
    congr 2
    rw [Nat.add_mul]; omega
theorem aR4 {z : Nat} {es : List (List (aF m))} {n : Nat} {e : List (aF m)} (h : ∀ e ∈ es, e.length = z) (he : es[n]? = some e) : (es.flatten.drop (n * z)).take z = e := by
  rw [← aEp es n h]
  have hlt := (List.getElem?_eq_some_iff.1 he).1
  have : es.drop n = e :: es.drop (n + 1) := by
    rw [List.drop_eq_getElem_cons hlt]
    congr 1
    exact (List.getElem?_eq_some_iff.1 he).2
  rw [this, List.flatten_cons, List.take_append]
  have hl := h e (List.mem_of_getElem? he)
  rw [List.take_of_length_le (by omega)]
  simp [hl]
theorem sZ {t : TypeId} {n : Nat} (h : eX P t = some n) : ∃ d i, P.underlying t = some d ∧ P.info? t = some i ∧ i.size = n := by
  unfold eX at h
  split at h
  · rename_i d hd
    rw [Option.map_eq_some_iff] at h
    obtain ⟨i, hi, rfl⟩ := h
    exact ⟨d, i, hd, hi, rfl⟩
  · simp at h
theorem aDM {t e : TypeId} (h : aDO P t = some e) : P.underlying t = some (.slice e) := by
  unfold aDO at h
  split at h <;> simp_all
theorem aG7 {t : TypeId} {d : TypeDesc} (h : P.underlying t = some d) : rL P t = aTt d := by
  unfold rL
  cases d <;> simp [h, aTt]
theorem aTg {x : (SV m)} {n : Nat} {v : Value} (h : aSI x = some n) (hx : ∀ l, x = .leaf l → eW w F N l v) : ∃ k, v = .int k n := by
  unfold aSI at h
  split at h
  · rename_i k m
    split at h
    · rename_i hm
      simp only [Option.some.injEq] at h
      subst h
      refine ⟨k, ?_⟩
      have := mZ (hx _ rfl)
      rw [this]
      congr 1
      omega
    · simp at h
  · simp at h
theorem aTO {t : TypeId} {cs : List (aF m)} {o : Nat} {v : (SV m)} {vs : Array Value} (h : aE9 P t cs o = some v) (hr : dJ w F N cs vs.toList) :
    ∃ z, (part t vs o).run P w = .ok z w ∧ ((∃ l, v = .leaf l ∧ eW w F N l z) ∨ ∃ ls us, v = .agg ls ∧ z = .agg us ∧ dJ w F N ls us.toList) := by
  unfold aE9 at h
  cases hd : P.underlying t with
  | none =>
    have : rL P t = true := by simp [rL, hd]
    simp [this, eX, hd] at h
  | some d =>
    rw [aG7 hd] at h
    split at h
    · rename_i ha
      rw [Option.bind_eq_some_iff] at h
      obtain ⟨n, hn, h⟩ := h
      obtain ⟨d', i, hd', hi, rfl⟩ := sZ hn
      split at h
      · rename_i hle
        simp only [Option.some.injEq] at h
        subst h
        refine ⟨.agg (vs.extract o (o + i.size)), by simp [part, aBu hd, ha, nB hi], .inr ⟨_, _, rfl, rfl, ?_⟩⟩
        have := (hr.drop o).take i.size
        simpa [Array.toList_extract, List.extract_eq_take_drop] using this
      · simp at h
    · rename_i ha
      rw [Option.map_eq_some_iff] at h
      obtain ⟨l, hl, rfl⟩ := h
      obtain ⟨z, hz, hr'⟩ := hr.get hl
      exact ⟨z, aNF hd (by simpa using ha) (by simpa using hz), .inl ⟨l, rfl, hr'⟩⟩
theorem aUn {ts : Array TypeId} {ty : TypeId} {x v : (SV m)} {u : Value} (h : aUb P ts x = some v) (hx : ∀ l, x.drop = .leaf l → eW w F N l u) (hb : ∀ b z lo n, x.drop = .bsl b z lo n → ∃ A cap, u = .slice A n cap) :
    ∃ z, (Builtin.len_ ts ty #[u]).run P w = .ok z w ∧ ∃ l, v = .leaf l ∧ eW w F N l z := by
  unfold aUb at h
  cases ht : ts[0]? with
  | none => rw [ht] at h; simp at h
  | some t =>
    rw [ht] at h
    simp only [Option.bind_some] at h
    split at h
    · rename_i s hu ex
      simp only [Option.some.injEq] at h; subst h
      cases uJ (hx _ ex)
      exact ⟨.int .i64 s.size, by simp [Builtin.len_, ht, run_underlying hu, goInt], _, rfl, .int _ _⟩
    · rename_i e c es hu ex
      simp only [Option.some.injEq] at h; subst h
      obtain ⟨A, cap, z, vals, rfl, _⟩ := aG6 (hx _ ex)
      exact ⟨.int .i64 es.length, by simp [Builtin.len_, ht, run_underlying hu, goInt], _, rfl, .int _ _⟩
    · rename_i e b z lo n hu ex
      simp only [Option.some.injEq] at h; subst h
      obtain ⟨A, cap, rfl⟩ := hb _ _ _ _ ex
      exact ⟨.int .i64 n, by simp [Builtin.len_, ht, run_underlying hu, goInt], _, rfl, .int _ _⟩
    · simp at h
theorem aQG {b : Bool} {ts : Array TypeId} {ty : TypeId} {x y v : (SV m)} {u u' : Value} (h : aRr b x y = some v) (hx : ∀ l, x = .leaf l → eW w F N l u) (hy : ∀ l, y = .leaf l → eW w F N l u') :
    ∃ z, (if b then Builtin.max_ ts ty #[u, u'] else Builtin.min_ ts ty #[u, u']).run P w = .ok z w ∧ ∃ l, v = .leaf l ∧ eW w F N l z := by
  unfold aRr at h
  split at h
  · rename_i k a k' c
    split at h
    · rename_i hk; subst hk
      simp only [Option.some.injEq] at h; subst h
      cases mZ (hx _ rfl); cases mZ (hy _ rfl)
      cases b
      · exact ⟨.int k (if c < a then c else a), by simp [Builtin.min_, Builtin.min2], _, rfl, by simpa using .int _ _⟩
      · exact ⟨.int k (if a < c then c else a), by simp [Builtin.max_, Builtin.max2], _, rfl, by simpa using .int _ _⟩
    · simp at h
  · simp at h
theorem aR0 {t : TypeId} {x i v : (SV m)} {u u' : Value} (h : aIN P t x i = some v) (hx : ∀ l, x = .leaf l → eW w F N l u) (hi : ∀ l, i = .leaf l → eW w F N l u') :
    ∃ z, (Instr.index t u u').run P w = .ok z w ∧ ∃ l, v = .leaf l ∧ eW w F N l z := by
  unfold aIN at h
  split at h
  · rename_i s k n hu
    split at h
    · rename_i h0
      split at h
      · rename_i hn
        simp only [Option.some.injEq] at h; subst h
        cases uJ (hx _ rfl); cases mZ (hi _ rfl)
        have hlt : n.toNat < s.size := by omega
        have hb : (if 0 ≤ n then s[n.toNat]? else none) = some s[n.toNat] := by rw [if_pos h0]; exact getElem?_pos s n.toNat hlt
        have he : s.data.toList.getD n.toNat 0 = s[n.toNat] := by
          have : n.toNat < s.data.toList.length := by rw [Array.length_toList]; exact hlt
          rw [List.getD_eq_getElem?_getD, List.getElem?_eq_getElem this]
          simp [ByteArray.getElem_eq_getElem_data]
        refine ⟨.int .u8 s[n.toNat].toNat, by simp only [Instr.index, asIntOf, Sem.run_bind, Sem.run_pure, Result.andThen_ok, run_underlying hu, hb], _, rfl, ?_⟩
        rw [he]
        exact .int _ _
      · simp at h
    · simp at h
  · simp at h
end Go.Vs
end
section
namespace Go.Vs
variable {m : Bool}
variable {P : Program} {w : World} {F : Fr} {N : Env}
def aNE (v : Option Value) (n : Option Nat) : Prop := (v = none ∧ n = none) ∨ ∃ (k : IntKind) (m : Nat), v = some (.int k m) ∧ n = some m
theorem xJ {k : IntKind} {m y : Nat} (code : BoundsCode) (h : m ≤ y) : (Instr.sliceBound (.int k m) y code).run P w = .ok m w := by
  have h0 : (0 : Int) ≤ (m : Int) ∧ (m : Int) ≤ (y : Int) := by omega
  simp [Instr.sliceBound, asIntOf, h]
theorem aEW {b : Bool} {len cap : Nat} {lo hi : Option Value} {l h : Option Nat} (hl : aNE lo l) (hh : aNE hi h) (h1 : l.getD 0 ≤ h.getD len) (h2 : h.getD len ≤ cap) :
    (Instr.sliceBounds b len cap lo hi none).run P w = .ok (l.getD 0, h.getD len, cap) w := by
  rcases hl with ⟨rfl, rfl⟩ | ⟨k, m, rfl, rfl⟩ <;> rcases hh with ⟨rfl, rfl⟩ | ⟨k', m', rfl, rfl⟩ <;> simp only [Option.getD_none, Option.getD_some] at h1 h2 ⊢
  · simp [Instr.sliceBounds]
  · simp [Instr.sliceBounds, xJ _ h2]
  · simp [Instr.sliceBounds, xJ _ h1]
  · simp [Instr.sliceBounds, xJ _ h1, xJ _ h2]
theorem uK (g o n : Nat) : (⟨g, o, none⟩ : Addr).add n = ⟨g, o + n, none⟩ := by unfold Addr.add; split <;> simp_all
theorem aSe {t : TypeId} {x v : (SV m)} {l h : Option Nat} {u : Value} {lo hi : Option Value} (hv : aFM P t x l h = some v) (hx : ∀ l, x.drop = .leaf l → eW w F N l u) (hl : aNE lo l) (hh : aNE hi h) :
    ∃ z, (Instr.sliceAt t u lo hi none).run P w = .ok z w ∧ ∃ l, v = .leaf l ∧ eW w F N l z := by
  unfold aFM at hv
  split at hv
  · rename_i s hu ex
    cases uJ (hx _ ex)
    split at hv
    · rename_i hb
      simp only [Option.some.injEq] at hv; subst hv
      refine ⟨.string (s.extract (l.getD 0) (h.getD s.size)), ?_, _, rfl, .str _⟩
      simp [Instr.sliceAt, Instr.slice, run_underlying hu, aEW hl hh hb.1 hb.2]
    · simp at hv
  · rename_i e c es hu ex
    obtain ⟨A, cap, z, vals, rfl, hc, hz, hvl, hcell, hr⟩ := aG6 (hx _ ex)
    rw [Option.bind_eq_some_iff] at hv
    obtain ⟨e', he', hv⟩ := hv
    rw [Option.bind_eq_some_iff] at hv
    obtain ⟨n, hn, hv⟩ := hv
    obtain ⟨d, i, hd, hi', rfl⟩ := sZ hn
    have := aDM he'
    rw [hu] at this
    cases this
    split at hv
    · rename_i hb
      obtain ⟨hs, hv⟩ := bW hv
      simp only [Option.some.injEq] at hv; subst hv
      have hs' := aKU hs
      refine ⟨_, by simp [Instr.sliceAt, Instr.slice, run_underlying hu, aEW hl hh hb.1 (Nat.le_trans hb.2 hc), nB hi']; rfl, _, rfl, ?_⟩
      have hlen : ((es.take (h.getD es.length)).drop (l.getD 0)).length = h.getD es.length - l.getD 0 := by
        rw [List.length_drop, List.length_take]; omega
      rw [← hlen]
      have hflat : ((es.take (h.getD es.length)).drop (l.getD 0)).flatten = (es.flatten.take (h.getD es.length * i.size)).drop (l.getD 0 * i.size) := by
        rw [aEp _ _ (fun x hx => hs' x (List.mem_of_mem_take hx)), aKn _ _ hs']
      refine qW (z := i.size) (vals := (vals.take (h.getD es.length * i.size)).drop (l.getD 0 * i.size)) (by rw [hlen]; omega) (fun x hx => hs' x (List.mem_of_mem_take (List.mem_of_mem_drop hx))) (fun hpos => ?_) ?_
      · rw [hlen] at hpos
        obtain ⟨g, o, rfl, hN, hle, hso, hcl⟩ := hcell (by omega)
        have hne : ¬ cap = l.getD 0 := by omega
        have hlv : vals.length = es.length * i.size := by rw [hr.1, gQ hs']
        have hmul : h.getD es.length * i.size ≤ es.length * i.size := Nat.mul_le_mul_right _ hb.2
        have hmul2 : l.getD 0 * i.size ≤ h.getD es.length * i.size := Nat.mul_le_mul_right _ hb.1
        have hz0 : 0 < i.size := by
          rcases Nat.eq_zero_or_pos i.size with h0 | h0
          · rw [h0] at hlv; have := hN.1; omega
          · exact h0
        have hmul3 : l.getD 0 * i.size < h.getD es.length * i.size := Nat.mul_lt_mul_of_pos_right (by omega) hz0
        refine ⟨g, o + l.getD 0 * i.size, by simp [hne, uK], ⟨by rw [List.length_drop, List.length_take]; omega, hN.2.later⟩, ?_, ⟨fun hs => hso.1 (by rwa [Fl.later_soft] at hs), fun hz' x hx' => hso.2 hz' x ?_⟩, fun j v hj => ?_⟩
        · rw [List.length_drop, List.length_take]; omega
        · rw [hflat] at hx'; exact List.mem_of_mem_take (List.mem_of_mem_drop hx')
        · rw [List.getElem?_drop, List.getElem?_take] at hj
          split at hj
          · have := hcl _ _ hj
            rw [← this, Nat.add_assoc]
          · simp at hj
      · rw [hflat]
        exact (hr.take _).drop _
    · simp at hv
  · simp at hv
theorem aNu {t : TypeId} {x i v : (SV m)} {u u' : Value} (hv : sN P t x i = some v) (hx : ∀ l, x.drop = .leaf l → eW w F N l u) (hi : ∀ l, i = .leaf l → eW w F N l u') {bm : Nat → Nat} {al : Nat → Bool}
    (hb : ∀ b z lo n, x.drop = .bsl b z lo n → ∃ cap, u = .slice (some ⟨bm b, lo * z, none⟩) n cap ∧ n ≤ cap ∧ al b = true) :
    ∃ z, (Instr.indexAt t u u').run P w = .ok z w ∧ ∀ Ow loc, bD P w F N Ow bm al loc v z := by
  unfold sN at hv
  split at hv
  · rename_i e b z lo k kk n he ex
    have hu := aDM he
    rw [Option.bind_eq_some_iff] at hv
    obtain ⟨z', hz, hv⟩ := hv
    obtain ⟨d, inf, hd, hinf, rfl⟩ := sZ hz
    split at hv
    · rename_i h0
      split at hv
      · rename_i hn
        split at hv
        · rename_i hzz
          simp only [Option.some.injEq] at hv; subst hv
          obtain ⟨cap, rfl, hc, hal⟩ := hb _ _ _ _ ex
          cases mZ (hi _ rfl)
          refine ⟨.pointer (some ⟨bm b, lo * z + n.toNat * inf.size, none⟩), ?_, fun Ow loc => ?_⟩
          · simp [Instr.indexAt, asIntOf, run_underlying hu, nB hinf, h0, hn, uK]
          · simp only [bD, eP]
            exact ⟨by rw [hzz.1, Nat.add_mul], hal⟩
        · simp at hv
      · simp at hv
    · simp at hv
  · rename_i e c es k n he ex
    have hu := aDM he
    rw [Option.bind_eq_some_iff] at hv
    obtain ⟨z, hz, hv⟩ := hv
    obtain ⟨d, inf, hd, hinf, rfl⟩ := sZ hz
    split at hv
    · rename_i h0
      split at hv
      · rename_i hn
        obtain ⟨hs, hv⟩ := bW hv
        simp only [Option.some.injEq] at hv; subst hv
        obtain ⟨A, cap, z, vals, rfl, hc, hz', hvl, hcell, hr⟩ := aG6 (hx _ ex)
        cases mZ (hi _ rfl)
        have hs' := aKU hs
        have hlt : n.toNat < es.length := by omega
        obtain ⟨g, o, rfl, hN, hle, hso, hcl⟩ := hcell (by omega)
        have hge : es[n.toNat]? = some es[n.toNat] := List.getElem?_eq_getElem hlt
        have hel : es[n.toNat].length = inf.size := hs' _ (List.getElem_mem hlt)
        have hlv : vals.length = es.length * inf.size := by rw [hr.1, gQ hs']
        have hmul : n.toNat * inf.size + inf.size ≤ es.length * inf.size := by
          rw [← Nat.succ_mul]; exact Nat.mul_le_mul_right _ hlt
        refine ⟨.pointer (some ⟨g, o + n.toNat * inf.size, none⟩), ?_, fun Ow loc => ?_⟩
        · have hn' : n < (es.length : Int) := hn
          simp [Instr.indexAt, asIntOf, run_underlying hu, nB hinf, h0, hn', uK]
        · have hD : es.getD n.toNat [] = es[n.toNat] := by rw [List.getD_eq_getElem?_getD, hge]; rfl
          rw [hD]
          simp only [bD, eP]
          refine ⟨g, o + n.toNat * inf.size, (vals.drop (n.toNat * inf.size)).take inf.size, rfl, ?_, ⟨Fl.At.of hN.2 hso.1, fun hz x hx => hso.2 hz x (List.mem_flatten.2 ⟨_, List.getElem_mem hlt, hx⟩)⟩, ?_, fun j u hj => ?_⟩
          · rw [hel]; omega
          · have := (hr.drop (n.toNat * inf.size)).take inf.size
            rwa [aR4 hs' hge] at this
          · rw [List.getElem?_take] at hj
            split at hj
            · rw [List.getElem?_drop] at hj
              rw [← hcl _ _ hj]
              congr 2
              omega
            · simp at hj
      · simp at hv
    · simp at hv
  · simp at hv
theorem aS6 {t : TypeId} {cs : List (aF m)} {o g p : Nat} {v : (SV m)} {vals : List Value} (h : aE9 P t cs o = some v) (hr : dJ w F N cs vals) (hc : ∀ (j : Nat) (u : Value), vals[j]? = some u → w.cell? ⟨g, p + j, none⟩ = some u) :
    ∃ z, (Instr.loadAt t (.pointer (some ⟨g, p + o, none⟩))).run P w = .ok z w ∧ ((∃ l, v = .leaf l ∧ eW w F N l z) ∨ ∃ ls us, v = .agg ls ∧ z = .agg us ∧ dJ w F N ls us.toList) := by
  unfold aE9 at h
  cases hd : P.underlying t with
  | none =>
    have : rL P t = true := by simp [rL, hd]
    simp [this, eX, hd] at h
  | some d =>
    rw [aG7 hd] at h
    split at h
    · rename_i ha
      rw [Option.bind_eq_some_iff] at h
      obtain ⟨n, hn, h⟩ := h
      obtain ⟨d', i, hd', hi, rfl⟩ := sZ hn
      split at h
      · rename_i hle
        simp only [Option.some.injEq] at h
        subst h
        have hlen : ((vals.drop o).take i.size).length = i.size := by
          rw [List.length_take, List.length_drop, hr.1]; omega
        have hl := run_loadCells_list (P := P) w ⟨g, p + o, none⟩ ((vals.drop o).take i.size) (fun j v hj => by
          rw [List.getElem?_take] at hj
          split at hj
          · rw [List.getElem?_drop] at hj
            rw [uK, ← hc _ _ hj]
            congr 2
            omega
          · simp at hj)
        rw [hlen] at hl
        refine ⟨.agg ((vals.drop o).take i.size).toArray, by simp [Instr.loadAt, Instr.sureAddr, loadVar, aBu hd, ha, nB hi, hl], .inr ⟨_, _, rfl, rfl, ?_⟩⟩
        simpa using (hr.drop o).take i.size
      · simp at h
    · rename_i ha
      rw [Option.map_eq_some_iff] at h
      obtain ⟨l, hl, rfl⟩ := h
      obtain ⟨z, hz, hr'⟩ := hr.get hl
      have hcz := hc _ _ hz
      refine ⟨z, ?_, .inl ⟨l, rfl, hr'⟩⟩
      have ha' : aTt d = false := by simpa using ha
      simp [Instr.loadAt, Instr.sureAddr, loadVar, aBu hd, ha', hcz]
end Go.Vs
end
section
set_option linter.unusedVariables false
set_option linter.unusedSimpArgs false
namespace Go.Vs
variable {m : Bool}
variable {P : Program} {N : Env}
def pC : (SV m) → Bool | .own _ _ => true | _ => false
def aW3 (bs : (iC m)) (b : Nat) : Bool := (bP bs b).isSome
abbrev St.al (s : (St m)) : Nat → Bool := fun b => (bP s.boxes b).isSome
def St.holds (s : (St m)) : Loc → Prop
  | .tmp t => pC (s.tmps.getD t .any) = true
  | .box b j => ∃ cs, bP s.boxes b = some cs ∧ pC (cs.getD j .any) = true
  | .blk b => (bP s.boxes b).isSome = true
theorem bD.to {w w' : World} {F F' : Fr} {Ow Ow' : Own} {bm bm' : Nat → Nat} {al al' : Nat → Bool} {loc loc' : Loc} {x : (SV m)} {v : Value} (k : hM N w F w' F') (h : bD P w F N Ow bm al loc x v)
    (hp : ∀ b, al b = true → bm' b = bm b ∧ al' b = true) (hb : pC x = true → ∀ g, Ow g = some loc → w'.heap[g]? = w.heap[g]? ∧ F' g = F g ∧ Ow' g = some loc') : bD P w' F' N Ow' bm' al' loc' x v := by
  cases x
  case own eo es => exact yG.keeps k h (hb rfl)
  case fn f caps => obtain ⟨vs, e, hs, hc⟩ := h; exact ⟨vs, e, hs, fun j c u a b => ((hc j c u a b).keeps k).boxes hp⟩
  case tup cs => obtain ⟨vs, e, hs, hc⟩ := h; exact ⟨vs, e, hs, fun j c u a b => ((hc j c u a b).keeps k).boxes hp⟩
  all_goals (simp only [bD] at h ⊢; exact (eP.keeps k h).boxes hp)
theorem bD.any {w : World} {F : Fr} {Ow : Own} {bm : Nat → Nat} {al : Nat → Bool} {loc : Loc} {v : Value} : bD (m := m) P w F N Ow bm al loc .any v := by simp only [bD, eP]
theorem bD.own_nil {w : World} {F : Fr} {Ow : Own} {bm : Nat → Nat} {al : Nat → Bool} {loc : Loc} {e : Option TypeId} : bD (m := m) P w F N Ow bm al loc (.own e []) (.slice none 0 0) := by
  simp only [bD]; exact .inl ⟨rfl, rfl⟩
theorem bD.leaf {w : World} {F : Fr} {Ow : Own} {bm : Nat → Nat} {al : Nat → Bool} {loc : Loc} {l : (aF m)} {v : Value} (h : eW w F N l v) : bD P w F N Ow bm al loc (.leaf l) v := by
  simp only [bD, eP]; exact h
theorem bD.cellOf {w : World} {F : Fr} {Ow : Own} {bm : Nat → Nat} {al : Nat → Bool} {loc : Loc} {l : (aF m)} {v : Value} (h : eW w F N l v) : bD P w F N Ow bm al loc (cellOf l) v := by
  cases h with
  | nl e => exact bD.own_nil
  | bool b => exact bD.leaf (.bool b)
  | int k n => exact bD.leaf (.int k n)
  | str t => exact bD.leaf (.str t)
  | unk v h => exact bD.leaf (.unk v h)
  | sl c es A cap z vals h1 h2 h3 h4 h5 => exact bD.leaf (.sl c es A cap z vals h1 h2 h3 h4 h5)
theorem bD.agg {w : World} {F : Fr} {Ow : Own} {bm : Nat → Nat} {al : Nat → Bool} {loc : Loc} {cs : List (aF m)} {us : Array Value} (h : dJ w F N cs us.toList) : bD P w F N Ow bm al loc (.agg cs) (.agg us) := by
  simp only [bD, eP]; exact ⟨us, rfl, h⟩
theorem bD.leafOf {w : World} {F : Fr} {Ow : Own} {bm : Nat → Nat} {al : Nat → Bool} {loc : Loc} {x : (SV m)} {v : Value} (h : bD P w F N Ow bm al loc x v) : ∀ l, x.drop = .leaf l → eW w F N l v := by
  intro l hl
  have := bD.drop (Ow' := Ow) (loc' := loc) h
  rw [hl] at this
  simpa only [bD, eP] using this
theorem bD.aggOf {w : World} {F : Fr} {Ow : Own} {bm : Nat → Nat} {al : Nat → Bool} {loc : Loc} {x : (SV m)} {v : Value} (h : bD P w F N Ow bm al loc x v) : ∀ cs, x.drop = .agg cs → ∃ vs, v = .agg vs ∧ dJ w F N cs vs.toList := by
  intro l hl
  have := bD.drop (Ow' := Ow) (loc' := loc) h
  rw [hl] at this
  simpa only [bD, eP] using this
theorem bD.bslOf {w : World} {F : Fr} {Ow : Own} {bm : Nat → Nat} {al : Nat → Bool} {loc : Loc} {x : (SV m)} {v : Value} (h : bD P w F N Ow bm al loc x v) : ∀ b z lo n, x.drop = .bsl b z lo n → ∃ cap, v = .slice (some ⟨bm b, lo * z, none⟩) n cap ∧ n ≤ cap ∧ al b = true := by
  intro b z lo n hl
  have := bD.drop (Ow' := Ow) (loc' := loc) h
  rw [hl] at this
  simpa only [bD, eP] using this
theorem aDF {x : (SV m)} {l : (aF m)} (h : x = .leaf l) : x.drop = .leaf l := by subst h; rfl
section
variable {s : (St m)} {tmps : Array Value} {w : World} {F : Fr} {Ow : Own} {bm : Nat → Nat}
def aGz : Operand → Loc | .tmp t => .tmp t | _ => .blk 0
theorem Inv.eval (h : Inv P s tmps w F N Ow bm) {a : Act} (ha : a.tmps = tmps) (x : Operand) : bD P w F N Ow bm s.al (aGz x) (s.eval x) (a.eval x) := by
  cases x with
  | tmp t => simpa [St.eval, Act.eval, ha, aGz] using h.slot t
  | const v =>
    simp only [St.eval, Act.eval, aGz]
    unfold aKs
    split <;> first | exact bD.leaf (.bool _) | exact bD.leaf (.int _ _) | exact bD.leaf (.str _) | exact bD.own_nil | (simp only [bD, eP]; done) | exact bD.any
  | global g => exact bD.any
  | func f => exact ⟨#[], rfl, rfl, fun j c u h => by simp at h⟩
theorem Inv.set (h : Inv P s tmps w F N Ow bm) {d : Nat} {v : (SV m)} {u : Value} (hv : bD P w F N Ow bm s.al (.tmp d) v u) :
    Inv P { s with tmps := s.tmps.set d v } (tmps.setIfInBounds d u) w F N Ow bm := by
  refine ⟨by simp [h.len], fun t => ?_, h.box, h.low, h.new, h.bmn, h.zow⟩
  show bD P w F N Ow bm s.al (.tmp t) ((s.tmps.set d v).getD t .any) ((tmps.setIfInBounds d u).getD t undef)
  by_cases ht : t = d
  · subst ht
    by_cases hl : t < s.tmps.length
    · have hl' : t < tmps.size := by rw [← h.len]; exact hl
      rw [List.getD_eq_getElem?_getD, List.getElem?_set_self hl]
      simpa [Array.getD, hl'] using hv
    · have hl' : ¬ t < tmps.size := by rw [← h.len]; exact hl
      rw [List.getD_eq_getElem?_getD, List.getElem?_eq_none (by simpa using hl)]
      exact bD.any
  · rw [List.getD_eq_getElem?_getD, List.getElem?_set_ne (fun e => ht e.symm), ← List.getD_eq_getElem?_getD]
    have : (tmps.setIfInBounds d u).getD t undef = tmps.getD t undef := by
      simp only [Array.getD_eq_getD_getElem?]
      rw [Array.getElem?_setIfInBounds_ne (fun e => ht e.symm)]
    rw [this]
    exact h.slot t
theorem Inv.forget (h : Inv P s tmps w F N Ow bm) {d : Nat} {v : (SV m)} (hv : bD P w F N Ow bm s.al (.tmp d) v (tmps.getD d undef)) :
    Inv P { s with tmps := s.tmps.set d v } tmps w F N Ow bm := by
  have := h.set (d := d) (v := v) (u := tmps.getD d undef) hv
  have e : tmps.setIfInBounds d (tmps.getD d undef) = tmps := by
    apply Array.ext_getElem?
    intro i
    by_cases hi : i = d
    · subst hi
      by_cases hl : i < tmps.size
      · simp [Array.getElem?_setIfInBounds, hl, Array.getD]
      · simp [Array.getElem?_setIfInBounds, hl]
    · rw [Array.getElem?_setIfInBounds_ne (fun e => hi e.symm)]
  rwa [e] at this
theorem Inv.to (h : Inv P s tmps w F N Ow bm) {w' : World} {F' : Fr} {Ow' : Own} {bm' : Nat → Nat} (k : hM N w F w' F') (hsz : w.heap.size ≤ w'.heap.size) (hb : ∀ b, (bP s.boxes b).isSome = true → bm' b = bm b)
    (ho : ∀ g loc, Ow g = some loc → s.holds loc → w'.heap[g]? = w.heap[g]? ∧ F' g = F g ∧ Ow' g = some loc) (hn : ∀ g, w'.heap.size ≤ g → F' g = 0 ∧ Ow' g = none) (hz : ∀ g, N.Z g = true → Ow' g = none ∧ ∃ cur e, w'.heap[g]? = some (.cells cur e (0, 0))) : Inv P s tmps w' F' N Ow' bm' := by
  have hp : ∀ b, s.al b = true → bm' b = bm b ∧ s.al b = true := fun b hb' => ⟨hb b hb', hb'⟩
  refine ⟨h.len, fun t => (h.slot t).to k hp fun hown g hg => ho g _ hg hown, fun b cs hbox => ?_, h.low.to k hsz, hn, fun b cs hb' => by rw [hb b (by rw [hb']; rfl)]; exact h.bmn b cs hb', hz⟩
  obtain ⟨cur, e, h1, h2, h3, h4, h5⟩ := h.box b cs hbox
  have hs : (bP s.boxes b).isSome = true := by rw [hbox]; rfl
  obtain ⟨o1, o2, o3⟩ := ho (bm b) (.blk b) h4 hs
  refine ⟨cur, e, by rw [hb b hs, o1]; exact h1, h2, by rw [hb b hs, o2]; exact h3, by rw [hb b hs]; exact o3, fun j c u hc hu => (h5 j c u hc hu).to k hp fun hown g hg => ho g _ hg ⟨cs, hbox, ?_⟩⟩
  rw [List.getD_eq_getElem?_getD, hc]
  exact hown
def aFg (x : Operand) (to : Loc) (Ow : Own) : Own := match x with
  | .tmp t => fun g => if Ow g = some (.tmp t) then some to else Ow g
  | _ => Ow
theorem aIY {x : Operand} {to : Loc} {Ow : Own} {g : Nat} (h : Ow g = none) : aFg x to Ow g = none := by cases x <;> simp [aFg, h]
theorem aHe (s : (St m)) (x : Operand) : s.take x = match x with | .tmp t => { s with tmps := s.tmps.set t (s.tmps.getD t .any).drop } | _ => s := by
  cases x <;> simp [St.take, St.takes, lX, eU, St.eval]
theorem tR (v : (SV m)) : pC v.drop = false := by cases v <;> rfl
theorem Inv.take (h : Inv P s tmps w F N Ow bm) {a : Act} (ha : a.tmps = tmps) (x : Operand) (to : Loc) :
    Inv P (s.take x) tmps w F N (aFg x to Ow) bm ∧ bD P w F N (aFg x to Ow) bm s.al to (s.eval x) (a.eval x) := by
  have hv := h.eval ha x
  cases x with
  | tmp t =>
    have h1 : Inv P (s.take (.tmp t)) tmps w F N Ow bm := by
      rw [aHe]
      exact h.forget (bD.drop (h.slot t))
    have hd : pC ((s.take (.tmp t)).tmps.getD t .any) = false := by
      rw [aHe]
      show pC ((s.tmps.set t (s.tmps.getD t .any).drop).getD t .any) = false
      by_cases hl : t < s.tmps.length
      · rw [List.getD_eq_getElem?_getD, List.getElem?_set_self hl]; exact tR _
      · rw [List.getD_eq_getElem?_getD, List.getElem?_eq_none (by simpa using hl)]; rfl
    refine ⟨h1.to (hM.refl _ _) (Nat.le_refl _) (fun _ _ => rfl) (fun g loc hg hl => ⟨rfl, rfl, ?_⟩) (fun g hg => ⟨(h.new g hg).1, aIY (h.new g hg).2⟩) (fun g hg => ⟨aIY (h.zow g hg).1, (h.zow g hg).2⟩), ?_⟩
    · simp only [aFg]
      rw [if_neg]
      · exact hg
      · rintro he
        rw [he] at hg
        cases hg
        rw [St.holds] at hl
        rw [hd] at hl
        exact Bool.false_ne_true hl
    · refine hv.to (hM.refl _ _) (fun b hb => ⟨rfl, hb⟩) fun _ g hg => ⟨rfl, rfl, ?_⟩
      simp only [aGz] at hg
      simp [aFg, hg]
  | const c =>
    refine ⟨by rw [aHe]; exact h, ?_⟩
    simp only [St.eval, Act.eval] at hv ⊢
    unfold aKs at hv ⊢
    split <;> simp_all [bD, yG, aFg]
  | global g => exact ⟨by rw [aHe]; exact h, bD.any⟩
  | func f => exact ⟨by rw [aHe]; exact h, ⟨#[], rfl, rfl, fun j c u h => by simp at h⟩⟩
theorem Inv.addBox (h : Inv P s tmps w F N Ow bm) {d : Nat} {cs : List (SV m)} {cur : Array Value} {e : TypeId} (hd : bP s.boxes d = none) (h1 : w.heap[bm d]? = some (.cells cur e (0, 0))) (h2 : cur.size = cs.length)
    (h3 : F (bm d) = 0) (h4 : Ow (bm d) = some (.blk d)) (h6 : N.n ≤ bm d) (h5 : ∀ (j : Nat) (c : (SV m)) (u : Value), cs[j]? = some c → cur[j]? = some u → bD P w F N Ow bm s.al (.box d j) c u) :
    Inv P { s with boxes := s.boxes.set d (some cs) } tmps w F N Ow bm := by
  have hal : ∀ b, s.al b = true → bP (s.boxes.set d (some cs)) b = bP s.boxes b := by
    intro b hb
    have hne : b ≠ d := by rintro rfl; simp [St.al, hd] at hb
    unfold bP
    rw [List.getD_eq_getElem?_getD, List.getElem?_set_ne (fun e => hne e.symm), ← List.getD_eq_getElem?_getD]
  have hp : ∀ b, s.al b = true → bm b = bm b ∧ (bP (s.boxes.set d (some cs)) b).isSome = true := fun b hb => ⟨rfl, by rw [hal b hb]; exact hb⟩
  refine ⟨h.len, fun t => (h.slot t).to (hM.refl _ _) hp fun _ g hg => ⟨rfl, rfl, hg⟩, fun b cs' hb => ?_, h.low, h.new, fun b cs' hb => ?_, h.zow⟩
  rotate_left
  · by_cases hbd : b = d
    · subst hbd; exact h6
    · refine h.bmn b cs' ?_
      unfold bP at hb ⊢
      rw [List.getD_eq_getElem?_getD, List.getElem?_set_ne (fun e => hbd e.symm), ← List.getD_eq_getElem?_getD] at hb
      exact hb
  by_cases hbd : b = d
  · subst hbd
    have : cs' = cs := by
      unfold bP at hb
      by_cases hl : b < s.boxes.length
      · rw [List.getD_eq_getElem?_getD, List.getElem?_set_self hl] at hb
        simpa using hb.symm
      · rw [List.getD_eq_getElem?_getD, List.getElem?_eq_none (by simpa using hl)] at hb
        simp at hb
    subst this
    exact ⟨cur, e, h1, h2, h3, h4, fun j c u hc hu => (h5 j c u hc hu).to (hM.refl _ _) hp fun _ g hg => ⟨rfl, rfl, hg⟩⟩
  · have hb' : bP s.boxes b = some cs' := by
      unfold bP at hb ⊢
      rw [List.getD_eq_getElem?_getD, List.getElem?_set_ne (fun e => hbd e.symm), ← List.getD_eq_getElem?_getD] at hb
      exact hb
    obtain ⟨cur, e, g1, g2, g3, g4, g5⟩ := h.box b cs' hb'
    exact ⟨cur, e, g1, g2, g3, g4, fun j c u hc hu => (g5 j c u hc hu).to (hM.refl _ _) hp fun _ g hg => ⟨rfl, rfl, hg⟩⟩
end
end Go.Vs
end
