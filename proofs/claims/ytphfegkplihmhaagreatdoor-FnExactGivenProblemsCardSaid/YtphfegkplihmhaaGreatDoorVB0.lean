/- What the program's functions compute, read off their text by the shadow runner (VsCore, VsEff, VsOrder, VsRep, VsVal, VsVal2, VsVal3); no condition. -/
import Derived.Orders
import Derived.Maps.AppendAt
import Derived.Laws.Tables
import Derived.Laws.BytesArg
import Derived.Extends
import Derived.Laws.StructEq
import Derived.Laws.Concat
import Derived.Laws.Cells
section
set_option linter.unusedVariables false
set_option linter.unusedSimpArgs false
namespace Go.Vs
variable {m : Bool}
inductive qA where
  | new | old | soft | tag (k : Nat) (f : Bool)
def Fl (m : Bool) : Type := match m with | true => qA | false => Unit
abbrev fP : Fl false := ()
abbrev dK : Fl true := qA.old
abbrev aQ : Fl true := qA.new
abbrev fW : Fl true := qA.soft
def Fl.new (m : Bool) : Fl m := match m with | true => qA.new | false => ()
def Fl.isSoft {m : Bool} (c : Fl m) : Bool := match m, c with | true, qA.soft => true | _, _ => false
def Fl.later {m : Bool} (c : Fl m) (lo : Option Nat) : Fl m := match lo with
  | none => c
  | some _ => match m, c with | true, qA.new => qA.old | true, qA.tag k _ => qA.tag k false | true, qA.old => qA.old | true, qA.soft => qA.soft | false, _ => ()
theorem Fl.later_soft {m : Bool} (c : Fl m) (lo : Option Nat) : (c.later lo).isSoft = c.isSoft := by
  cases lo with
  | none => rfl
  | some k => cases m with
    | false => cases c; rfl
    | true => cases c <;> rfl
theorem Fl.soft_new (m : Bool) : (Fl.new m).isSoft = false := by cases m <;> rfl
def Fl.kept (m : Bool) : Fl m := match m with | true => qA.old | false => ()
theorem Fl.soft_kept (m : Bool) : (Fl.kept m).isSoft = false := by cases m <;> rfl
instance : Inhabited (Fl m) := ⟨Fl.new m⟩
inductive aC (m : Bool) where
  | bool (b : Bool)
  | int (k : IntKind) (n : Int)
  | str (s : ByteArray)
  | unk
  | sl (c : Fl m) (es : List (List (aC m)))
  | nl (e : Option TypeId)
  deriving Inhabited
inductive SV (m : Bool) where
  | any
  | skip
  | leaf (l : (aC m))
  | own (e : Option TypeId) (es : List (List (aC m)))
  | raw (e : Option TypeId) (es : List (List (aC m)))
  | agg (cs : List (aC m))
  | ptr (b o : Nat)
  | eptr (c : Fl m) (e : List (aC m)) (o : Nat)
  | bsl (b z lo n : Nat)
  | kfn (f : FuncId) (caps : List (Option (Nat × Nat)))
  | nilptr
  | nilface
  | fn (f : FuncId) (caps : List (SV m))
  | tup (vs : List (SV m))
  deriving Inhabited
def SV.drop : (SV m) → (SV m)
  | .own _ es => .leaf (.sl (Fl.new m) es)
  | .raw _ _ => .any
  | v => v
def SV.see : (SV m) → (SV m)
  | .raw _ es => .leaf (.sl (Fl.new m) es)
  | v => v.drop
structure St (m : Bool) where
  tmps : List (SV m)
  boxes : List (Option (List (SV m)))
  deriving Inhabited
structure gB where
  nt : Nat
  mv : Nat → Nat → Bool
  pure : Nat → Nat → Bool
  take : Nat → Nat → Bool
  clear : Nat → List Nat
  drop : Nat → List Nat
  after : Nat → List Nat
  afterB : Nat → List Nat
  condA : Nat → List Nat × List Nat
  condB : Nat → List Nat × List Nat
  fz : Nat → List Nat
def gB.fit (h : gB) (n : Nat) : gB := { h with nt := n }
abbrev bK (m : Bool) := FuncId → List (SV m) → List (List (SV m)) → Option ((SV m) × List (List (SV m)))
def aFN : Value → (SV m)
  | .bool b => .leaf (.bool b)
  | .int k n => .leaf (.int k n)
  | .string s => .leaf (.str s)
  | .slice none 0 0 => .own none []
  | .pointer none => .nilptr
  | .nilIface => .nilface
  | _ => .any
def St.eval (s : (St m)) : Operand → (SV m)
  | .tmp t => s.tmps.getD t .any
  | .const v => aFN v
  | .global _ => .any
  | .func f => .fn f []
def St.put (s : (St m)) (dst : Option Tmp) (v : (SV m)) : (St m) :=
  match dst with
  | some d => { s with tmps := s.tmps.set d v }
  | none => s
def SV.plain : (SV m) → Bool | .leaf (.int _ _) | .leaf (.bool _) | .leaf (.str _) => true | _ => false
def eG (e : List (aC m)) (p : Nat) : Bool := match e[p]? with | some .unk => true | _ => false
def kG (ρ : Operand → (SV m)) : Operand → List (Tmp × (SV m))
  | .tmp t => [(t, (ρ (.tmp t)).drop)]
  | _ => []
def eO (l : List (SV m)) (us : List (Tmp × (SV m))) : List (SV m) := us.foldl (fun l p => l.set p.1 p.2) l
def St.takes (s : (St m)) (xs : List Operand) : (St m) := { s with tmps := eO s.tmps (xs.flatMap (kG s.eval)) }
def rC (ta : Bool) (ρ : Operand → (SV m)) (x : Operand) : (SV m) := match ta with | true => ρ x | false => (ρ x).drop
def aAC (ta : Bool) (xs : List Operand) : List Operand := match ta with | true => xs | false => []
def St.take (s : (St m)) (x : Operand) : (St m) := s.takes [x]
abbrev gU (m : Bool) := List (Option (List (SV m)))
def aW (bs : (gU m)) (b : Nat) : Option (List (SV m)) := bs.getD b none
def sF (bs : (gU m)) : List Nat → Option (List (List (SV m)))
  | [] => some []
  | b :: r => (aW bs b).bind fun c => (sF bs r).map (c :: ·)
def iO (bs : (gU m)) : List Nat → List (List (SV m)) → (gU m)
  | b :: r, c :: cs => iO (bs.set b (some c)) r cs
  | _, _ => bs
def St.box (s : (St m)) (b : Nat) : Option (List (SV m)) := aW s.boxes b
def St.setBox (s : (St m)) (b : Nat) (cs : Option (List (SV m))) : (St m) := { s with boxes := s.boxes.set b cs }
def SV.leaves : (SV m) → Option (List (aC m))
  | .leaf l => some [l]
  | .own _ es => some [.sl (Fl.new m) es]
  | .agg cs => some cs
  | _ => none
def cellOf : (aC m) → (SV m)
  | .nl e => .own e []
  | l => .leaf l
def SV.cells : (SV m) → List (SV m)
  | .agg cs => cs.map cellOf
  | v => [v]
def asLeaf : (SV m) → Option (aC m)
  | .leaf l => some l
  | .own _ es => some (.sl (Fl.new m) es)
  | _ => none
def cM : List (SV m) → Option (List (aC m))
  | [] => some []
  | c :: r => (asLeaf c).bind fun l => (cM r).map (l :: ·)
def aA5 : Value → Option (aC m)
  | .bool b => some (.bool b)
  | .int k n => some (.int k n)
  | .string s => some (.str s)
  | .slice none 0 0 => some (.sl (Fl.new m) [])
  | _ => none
def fY : List Value → Option (List (aC m))
  | [] => some []
  | c :: r => (aA5 c).bind fun l => (fY r).map (l :: ·)
def qN (P : Program) (t : TypeId) : Option (List (aC m)) :=
  (P.info? t).bind fun i => i.zero.bind fun z => fY z.cells.toList
def kW (P : Program) (t : TypeId) : Bool := match P.underlying t with | some (.struct _) | some (.array _ _) | none => true | _ => false
def dS (P : Program) (t : TypeId) : Option Nat := match P.underlying t with | some _ => (P.info? t).map (·.size) | none => none
def oY (P : Program) (t : TypeId) : Option TypeId := match P.underlying t with | some (.slice e) => some e | _ => none
def aCS (P : Program) (t : TypeId) (f : Nat) : Option (Nat × TypeId) :=
  match P.underlying t with
  | some (.struct fs) => (fs[f]?).map fun x => (x.offset, x.type)
  | _ => none
def aBN (P : Program) (t : TypeId) (cs : List (aC m)) (o : Nat) : Option (SV m) :=
  if kW P t then (dS P t).bind fun n => if o + n ≤ cs.length then some (.agg ((cs.drop o).take n)) else none
  else (cs[o]?).map .leaf
def aDq (op : BinOp) (k : IntKind) (a b : Int) : Option (aC m) :=
  match op with
  | .add => some (.int k (k.wrap (a + b)))
  | .sub => some (.int k (k.wrap (a - b)))
  | .mul => some (.int k (k.wrap (a * b)))
  | .quo => if b = 0 then none else some (.int k (k.wrap (a.tdiv b)))
  | .rem => if b = 0 then none else some (.int k (a.tmod b))
  | .eql => some (.bool (a == b))
  | .neq => some (.bool (a != b))
  | .lss => some (.bool (a < b))
  | .leq => some (.bool (a ≤ b))
  | .gtr => some (.bool (a > b))
  | .geq => some (.bool (a ≥ b))
  | .and => some (.int k (k.wrap (BitVec.ofInt k.bits a &&& BitVec.ofInt k.bits b).toNat))
  | .shl => if b < 0 then none else some (.int k (k.wrap (a * 2 ^ min b.toNat k.bits)))
  | .shr => if b < 0 then none else some (.int k (a.fdiv (2 ^ min b.toNat k.bits)))
  | _ => none
def aNU (op : BinOp) (x y : ByteArray) : Option (aC m) :=
  match op with
  | .add => if x.size + y.size ≤ 140737488355328 then some (.str (x ++ y)) else none
  | .eql => some (.bool (x.toList == y.toList))
  | .neq => some (.bool !(x.toList == y.toList))
  | .lss => some (.bool (Op.bytesLess x.toList y.toList))
  | .leq => some (.bool (Op.bytesLess x.toList y.toList || x.toList == y.toList))
  | .gtr => some (.bool !(Op.bytesLess x.toList y.toList || x.toList == y.toList))
  | .geq => some (.bool !(Op.bytesLess x.toList y.toList))
  | _ => none
def aQ4 (op : BinOp) (x y : Bool) : Option (aC m) :=
  match op with
  | .eql => some (.bool (x == y))
  | .neq => some (.bool !(x == y))
  | _ => none
def aQ3 (P : Program) (t : TypeId) (a b : (aC m)) : Option Bool :=
  match P.underlying t, a, b with
  | some (.int _), .int k a, .int k' b => if k = k' then some (a == b) else none
  | some .bool, .bool a, .bool b => some (a == b)
  | some .string, .str a, .str b => some (a == b)
  | _, _, _ => none
def tU (P : Program) : Nat → List Field → List (aC m) → List (aC m) → Option Bool
  | _, [], [], [] => some true
  | j, f :: fs, a :: x, b :: y => if f.offset == j && f.name != "_" then (aQ3 P f.type a b).bind fun e => (tU P (j + 1) fs x y).map (e && ·) else none
  | _, _, _, _ => none
def aFM (P : Program) (t : TypeId) (a b : List (aC m)) : Option Bool :=
  match P.underlying t with
  | some (.struct fs) => if P.stoodInHeld t || P.eqGuardType P.depth t then none else tU P 0 fs.toList a b
  | _ => none
def aRE (P : Program) (t : TypeId) : Bool := match P.underlying t with | some .bool => true | _ => false
def aLO : BinOp → Bool | .shl | .shr => true | _ => false
def aPa (P : Program) (op : BinOp) (t : TypeId) (x y : (SV m)) : Option (SV m) :=
  match x.drop, y.drop with
  | .leaf (.int k a), .leaf (.int k' b) =>
    if aLO op = true then (aDq op k a b).map .leaf
    else if k = k' then (aDq op k a b).map .leaf else none
  | .leaf (.str a), .leaf (.str b) => (aNU op a b).map .leaf
  | .leaf (.bool a), .leaf (.bool b) => if aRE P t then (aQ4 op a b).map .leaf else none
  | .agg a, .agg b => match op with
    | .eql => (aFM P t a b).map fun e => .leaf (.bool e)
    | .neq => (aFM P t a b).map fun e => .leaf (.bool !e)
    | _ => none
  | _, _ => none
def unV (op : UnOp) (x : (SV m)) : Option (SV m) :=
  match op, x with
  | .not, .leaf (.bool b) => some (.leaf (.bool !b))
  | .neg, .leaf (.int k n) => some (.leaf (.int k (k.wrap (0 - n))))
  | _, _ => none
def nA : List (List (aC m)) → Option (List UInt8)
  | [] => some []
  | [.int .u8 n] :: r => (nA r).map (UInt8.ofNat n.toNat :: ·)
  | _ => none
def aK5 (P : Program) (src dst : TypeId) (x : (SV m)) : Option (SV m) :=
  match P.underlying src, P.underlying dst, x.drop with
  | some (.int _), some (.int k), .leaf (.int _ n) => some (.leaf (.int k (k.wrap n)))
  | some .string, some .string, .leaf (.str s) => some (.leaf (.str s))
  | some (.slice e), some .string, .leaf (.sl _ es) =>
    match P.underlying e with
    | some (.int .u8) => (nA es).map fun l => .leaf (.str ⟨l.toArray⟩)
    | _ => none
  | some .string, some (.slice e), .leaf (.str s) =>
    match P.underlying e with
    | some (.int .u8) => some (.leaf (.sl (Fl.kept m) (s.data.toList.map fun b => [.int .u8 b.toNat])))
    | _ => none
  | _, _, _ => none
def aA {β : Type} (b : Bool) (x : Option β) : Option β := match b with | true => x | false => none
def sized (n : Nat) (es : List (List (aC m))) : Bool := es.all fun e => e.length == n
def aRZ : (SV m) → Option Nat
  | .leaf (.int _ n) => if 0 ≤ n then some n.toNat else none
  | _ => none
def kR (ρ : Operand → (SV m)) : Option Operand → Option (Option Nat)
  | none => some none
  | some x => (aRZ (ρ x)).map some
def aCT (P : Program) (t : TypeId) (x : (SV m)) (lo hi : Option Nat) : Option (SV m) :=
  match P.underlying t, x.drop with
  | some (.slice _), .bsl b z k n =>
    (oY P t).bind fun e => (dS P e).bind fun z' =>
      if (lo.getD 0 ≤ hi.getD n ∧ hi.getD n ≤ n) ∧ z' = z then some (.bsl b z (k + lo.getD 0) (hi.getD n - lo.getD 0)) else none
  | some .string, .leaf (.str b) =>
    if lo.getD 0 ≤ hi.getD b.size ∧ hi.getD b.size ≤ b.size then some (.leaf (.str (b.extract (lo.getD 0) (hi.getD b.size)))) else none
  | some (.slice _), .leaf (.sl c es) =>
    (oY P t).bind fun e => (dS P e).bind fun z =>
      if lo.getD 0 ≤ hi.getD es.length ∧ hi.getD es.length ≤ es.length then aA (sized z es) (some (.leaf (.sl (c.later lo) ((es.take (hi.getD es.length)).drop (lo.getD 0))))) else none
  | _, _ => none
def aCP (P : Program) (t : TypeId) (x : (SV m)) (lo hi mx : Option Nat) : Option (SV m) :=
  match P.underlying t, x.drop, hi, mx with
  | some (.slice _), .bsl b z k n, some h, some c =>
    (oY P t).bind fun e => (dS P e).bind fun z' =>
      if ((lo.getD 0 ≤ h ∧ h ≤ c) ∧ c ≤ n) ∧ z' = z then some (.bsl b z (k + lo.getD 0) (h - lo.getD 0)) else none
  | _, _, _, _ => none
def aJO (P : Program) (argTypes : Array TypeId) (cs : List (SV m)) (z lo n : Nat) : Option (List (SV m)) :=
  (argTypes[0]?).bind fun t => (oY P t).bind fun e => (qN P e).bind fun ze =>
    if (ze.length = z ∧ 0 < z) ∧ (lo + n) * z ≤ cs.length then some (cs.take (lo * z) ++ (List.replicate n ze).flatten.map .leaf ++ cs.drop ((lo + n) * z)) else none
def aAO (P : Program) (t : TypeId) (x : (SV m)) (f : Nat) : Option (SV m) :=
  (aCS P t f).bind fun (o, ft) => (dS P ft).bind fun n => if n = 0 then none else
    match x with
    | .ptr b p => some (.ptr b (p + o))
    | .eptr c e p => some (.eptr c e (p + o))
    | _ => none
def qD (P : Program) (t : TypeId) (x i : (SV m)) : Option (SV m) :=
  match oY P t, x.drop, i with
  | some e, .bsl b z lo k, .leaf (.int _ n) =>
    (dS P e).bind fun z' => if 0 ≤ n then if n < (k : Int) then if z' = z ∧ 0 < z then some (.ptr b ((lo + n.toNat) * z)) else none else none else none
  | some e, .leaf (.sl c es), .leaf (.int _ n) =>
    (dS P e).bind fun z =>
      if 0 ≤ n then if n < (es.length : Int) then aA (sized z es) (some (.eptr c (es.getD n.toNat []) 0)) else none else none
  | _, _, _ => none
def aHA (P : Program) (t : TypeId) (x i : (SV m)) : Option (SV m) :=
  match P.underlying t, x, i with
  | some .string, .leaf (.str s), .leaf (.int _ n) =>
    if 0 ≤ n then if n < (s.size : Int) then some (.leaf (.int .u8 (s.data.toList.getD n.toNat 0).toNat)) else none else none
  | _, _, _ => none
def aK : Nat := 140737488355328
def xW (P : Program) (e : TypeId) : Bool := match P.info? e with
  | some i => (match i.zero with | some (.int .u8 n) => n == 0 && i.size == 1 && i.bytes == 1 | _ => false)
  | none => false
def pK (P : Program) (e : TypeId) : Bool := match P.info? e with
  | some i => (match i.zero with | some z => z.cells.size == i.size | none => false)
  | none => false
def aCE (P : Program) (argTypes : Array TypeId) (x y : (SV m)) : Option (SV m) :=
  match argTypes.toList, x with
  | [t, u], .own eo es =>
    (oY P t).bind fun e => (P.info? e).bind fun i => aA (eo.getD e == e && decide (0 < i.size) && decide (0 < i.bytes) && pK P e) <|
      match P.underlying u, y.see with
      | some (.slice _), .leaf (.sl _ fs) => if t = u ∧ (es.length + fs.length) * i.bytes ≤ aK then aA (sized i.size fs) (some (.own (some e) (es ++ fs))) else none
      | some .string, .leaf (.str s) => if es.length + s.size ≤ aK then aA (xW P e) (some (.own (some e) (es ++ s.data.toList.map fun b => [.int .u8 b.toNat]))) else none
      | _, _ => none
  | [t, u], .raw eo es =>
    (oY P t).bind fun e => (P.info? e).bind fun i => aA (eo.getD e == e && decide (0 < i.size) && decide (0 < i.bytes) && pK P e) <|
      match P.underlying u, y.see with
      | some (.slice _), .leaf (.sl _ fs) => if t = u ∧ (es.length + fs.length) * i.bytes ≤ aK then aA (sized i.size fs) (some (.raw (some e) (es ++ fs))) else none
      | some .string, .leaf (.str s) => if es.length + s.size ≤ aK then aA (xW P e) (some (.raw (some e) (es ++ s.data.toList.map fun b => [.int .u8 b.toNat]))) else none
      | _, _ => none
  | _, _ => none
def aTj (P : Program) (argTypes : Array TypeId) (x : (SV m)) : Option (SV m) :=
  match (argTypes[0]?).bind P.underlying, x.see with
  | some .string, .leaf (.str s) => some (.leaf (.int .i64 s.size))
  | some (.slice _), .leaf (.sl _ es) => some (.leaf (.int .i64 es.length))
  | some (.slice _), .bsl _ _ _ n => some (.leaf (.int .i64 n))
  | _, _ => none
def aP2 (isMax : Bool) (x y : (SV m)) : Option (SV m) :=
  match x, y with
  | .leaf (.int k a), .leaf (.int k' b) => if k = k' then some (.leaf (.int k (if isMax then (if a < b then b else a) else (if b < a then b else a)))) else none
  | _, _ => none
def aJX (cs : List (Option (Nat × Nat))) : List Nat := cs.flatMap fun | some p => [p.1] | none => []
def aO9 (f : Nat → Nat) (cs : List (Option (Nat × Nat))) : List (Option (Nat × Nat)) := cs.map (Option.map fun p => (f p.1, p.2))
def SV.boxIds : (SV m) → List Nat
  | .ptr b _ => [b]
  | .bsl b _ _ _ => [b]
  | .kfn _ cs => aJX cs
  | .fn _ caps => caps.flatMap fun | .ptr b _ => [b] | .kfn _ cs => aJX cs | _ => []
  | _ => []
def aKR (l : List Nat) (b : Nat) : List Nat := if l.contains b then l else l ++ [b]
def jM (args : List (SV m)) : List Nat := (args.flatMap SV.boxIds).foldl aKR []
def gV (l : List Nat) (b : Nat) : Nat := l.findIdx (· == b)
def SV.ren (f : Nat → Nat) : (SV m) → (SV m)
  | .ptr b o => .ptr (f b) o
  | .bsl b z lo n => .bsl (f b) z lo n
  | .kfn g cs => .kfn g (aO9 f cs)
  | .fn g caps => .fn g (caps.map fun | .ptr b o => .ptr (f b) o | .kfn g cs => .kfn g (aO9 f cs) | v => v)
  | v => v
def SV.data : (SV m) → Bool
  | .leaf _ | .own _ _ | .raw _ _ | .agg _ | .nilface | .nilptr => true
  | _ => false
def SV.flat : (SV m) → Bool
  | .leaf _ | .own _ _ | .raw _ _ | .agg _ | .nilface | .nilptr | .any => true
  | _ => false
def SV.flatT : (SV m) → Bool
  | .tup vs => vs.all SV.flat
  | v => v.flat
def SV.backOk (n : Nat) : (SV m) → Bool
  | .bsl b _ _ _ => decide (b < n)
  | v => v.flatT
def SV.handed : (SV m) → Bool
  | .ptr _ _ => true
  | .bsl _ _ _ _ => true
  | .eptr _ _ _ => true
  | .any => true
  | .kfn _ _ => true
  | .fn _ caps => caps.all fun | .ptr _ _ => true | .leaf _ => true | .eptr _ _ _ => true | .any => true | .kfn _ _ => true | _ => false
  | v => v.data
def cQ (l : List Operand) : List Tmp := l.filterMap fun | .tmp t => some t | _ => none
def aB {β : Type} (b : Bool) (x y : Option β) : Option β := match b with | true => x | false => y
def oM {β : Type} (v : (SV m)) (k : Bool → Option β) : Option β := match v with | .leaf (.bool b) => k b | _ => none
def pQ {β : Type} (v : (SV m)) (want : Bool) (x y : Option β) : Option β :=
  match v with
  | .leaf (.bool b) => aB (b == want) x y
  | .skip => y
  | _ => none
section
variable {β : Type}
def aRI (D : (bK m)) (s : (St m)) (pureHint : Bool) (f : FuncId) (args : List (SV m)) (dst : Option Tmp) (k : (St m) → Option β) : Option β :=
  aA (args.all SV.handed) <|
    if pureHint then
      if jM args = [] then (D f args []).bind fun r => k (s.put dst r.1) else none
    else
      (sF s.boxes (jM args)).bind fun cs => aA (cs.all (·.all SV.flat)) <|
        (D f (args.map (SV.ren (gV (jM args)))) cs).bind fun r => k (({ s with boxes := iO s.boxes (jM args) r.2 } : (St m)).put dst (r.1.ren ((jM args).getD · 0)))
def aQA (place : Nat → Option (Nat × TypeId)) (size : TypeId → Option Nat) (cs : List (aC m)) : List (Nat × (SV m)) → Option (List (aC m))
  | [] => some cs
  | (i, v) :: r => (place i).bind fun p => (size p.2).bind fun n => v.leaves.bind fun l =>
    if l.length = n ∧ p.1 + n ≤ cs.length then aQA place size (cs.take p.1 ++ l ++ cs.drop (p.1 + n)) r else none
def aVd (P : Program) (t : TypeId) (j : Nat) : Option TypeId :=
  match P.underlying t with
  | some (.slice e) => some e
  | some (.struct fs) => (fs.toList.find? fun f => f.offset == j).bind fun f => oY P f.type
  | _ => none
def aOu (P : Program) (t : TypeId) : Nat → List (aC m) → List (aC m)
  | _, [] => []
  | j, l :: r => (match l with | .sl _ [] => .nl (aVd P t j) | l => l) :: aOu P t (j + 1) r
def aHa (P : Program) (t : TypeId) : Bool := match P.underlying t with | some (.struct fs) => fs.toList.all fun f => (P.info? f.type).isSome | _ => false
def aMa (P : Program) (t : TypeId) (ow : Bool) (parts : List (Nat × (SV m))) : Option (SV m) :=
  aA (aHa P t) <| (qN P t).bind fun z => (aQA (aCS P t) (dS P) (match ow with | true => aOu P t 0 z | false => z) parts).map .agg
def aJn (z : Nat) (k : Nat) : List (Nat × (SV m)) → Option (List (List (aC m)))
  | [] => some []
  | (i, v) :: r => if i = k then v.leaves.bind fun l => if l.length = z then (aJn z (k + 1) r).map (l :: ·) else none else none
def tN (P : Program) (t : TypeId) (n : Nat) (parts : List (Nat × (SV m))) : Option (SV m) :=
  (oY P t).bind fun e => (dS P e).bind fun z => aA (pK P e) <|
    if n = parts.length ∧ parts.length * z ≤ 16777216 ∧ 0 < z then (aJn z 0 parts).map (.own (some e)) else none
def aD0 : (SV m) → Bool
  | .fn _ caps => caps.all fun | .ptr _ _ => true | .leaf _ => true | _ => false
  | _ => false
def aPS : (SV m) → Bool
  | .ptr _ _ => true
  | .kfn _ _ => true
  | .eptr _ _ _ => true
  | .leaf _ => true
  | _ => false
def aJW (P : Program) (t : TypeId) : (SV m) → (SV m)
  | .own none [] => .own (oY P t) []
  | v => v
def aAq (P : Program) (t : TypeId) : Nat → List (aC m) → List (SV m)
  | _, [] => []
  | j, l :: r => (match l with | .sl _ [] => .own (aVd P t j) [] | l => .leaf l) :: aAq P t (j + 1) r
def aMN (P : Program) (t : TypeId) : Option (List (SV m)) := match qN (m := m) P t with
  | some z => some (aAq P t 0 z)
  | none => ((P.info? t).bind fun i => i.zero).map fun z => List.replicate z.cells.size .any
def aNP (P : Program) (t : TypeId) (l c : (SV m)) : Option ((Nat × Nat) × List (SV m)) :=
  match l, c with
  | .leaf (.int _ a), .leaf (.int _ b) =>
    (oY P t).bind fun e => (P.info? e).bind fun i => (qN P e).bind fun ze =>
      if (0 ≤ a ∧ a = b) ∧ (0 < i.size ∧ a.toNat * i.bytes ≤ aK ∧ a.toNat ≤ aK) ∧ ze.length = i.size then some ((i.size, a.toNat), ((List.replicate a.toNat ze).flatten.map .leaf)) else none
  | _, _ => none
def unK (f : FuncId) (cs : List (Option (Nat × Nat))) : (SV m) := .fn f (cs.map fun | some p => .ptr p.1 p.2 | none => .kfn f cs)
def fO (P : Program) (D : (bK m)) (nt : Nat) (mv pu ta : Bool) (o : Oper) (s : (St m)) (k : (St m) → Option β) : Option β :=
  match o.op with
  | .move x | .assign x => if mv then k ((s.take x).put o.dst (aJW P o.type (s.eval x))) else k (s.put o.dst (s.eval x).drop)
  | .pick c a b => oM (s.eval c) fun c => aB c (k (s.put o.dst (s.eval a).drop)) (k (s.put o.dst (s.eval b).drop))
  | .box _ x => match o.dst with
    | some d => match s.box d with
      | none => aA (decide (d < nt) && ((s.eval x).data || aD0 (s.eval x))) (k (((s.take x).setBox d (some (s.eval x).cells)).put o.dst (.ptr d 0)))
      | some _ => none
    | none => none
  | .alloc t => match o.dst with
    | some d => match s.box d with
      | none => aA (decide (d < nt)) <| (aMN P t).bind fun z => k ((s.setBox d (some z)).put o.dst (.ptr d 0))
      | some _ => none
    | none => none
  | .makeSlice t l c => match o.dst with
    | some d => match s.box d with
      | none => aA (decide (d < nt)) <| (aNP P t (s.eval l) (s.eval c)).bind fun p => k ((s.setBox d (some p.2)).put o.dst (.bsl d p.1.1 0 p.1.2))
      | some _ => none
    | none => none
  | .build t parts => (aMa P t mv (parts.toList.map fun p => (p.1, s.eval p.2))).bind fun v => k (s.put o.dst v)
  | .buildSlice t n parts => (tN P t n (parts.toList.map fun p => (p.1, s.eval p.2))).bind fun v => k (s.put o.dst v)
  | .load t x => match s.eval x with
    | .eptr _ e p => (aBN P t e p).bind fun v => k (s.put o.dst v)
    | .kfn f cs => aA (!kW P t) (k (s.put o.dst (unK f cs)))
    | .ptr b p => aA pu <| (s.box b).bind fun cs =>
      if kW P t then (dS P t).bind fun n => if p + n ≤ cs.length then (cM ((cs.drop p).take n)).bind fun l => k (s.put o.dst (.agg l)) else none
      else (cs[p]?).bind fun c => if mv then k ((s.setBox b (some (cs.set p c.drop))).put o.dst c) else k (s.put o.dst c.drop)
    | _ => none
  | .store t x y => match s.eval x with
    | .eptr c e p => if (c.isSoft = true ∧ eG e p = true) ∧ (s.eval y).plain = true ∧ dS P t = some 1 then k (s.put o.dst .skip) else none
    | .ptr b p => (s.box b).bind fun cs => (dS P t).bind fun n => aA ((s.eval y).data || aD0 (s.eval y)) <|
      if n = (s.eval y).cells.length ∧ p + n ≤ cs.length then k (((s.take y).setBox b (some (cs.take p ++ (s.eval y).cells ++ cs.drop (p + n)))).put o.dst .skip) else none
    | _ => none
  | .nilCheck x => match s.eval x with
    | .ptr b p => k (s.put o.dst (.ptr b p))
    | .eptr c e p => k (s.put o.dst (.eptr c e p))
    | .kfn f cs => k (s.put o.dst (.kfn f cs))
    | _ => none
  | .binOp op t x y _ => (aPa P op t (s.eval x) (s.eval y)).bind fun v => k (s.put o.dst v)
  | .unOp op _ x => (unV op (s.eval x)).bind fun v => k (s.put o.dst v)
  | .convert src dst x => (aK5 P src dst (s.eval x)).bind fun v => k (s.put o.dst v)
  | .makeFunc fn first caps => match fn with
    | .func f => if first.size = 0 then aA ((caps.toList.map s.eval).all aPS) (k (s.put o.dst (.fn f (caps.toList.map s.eval)))) else none
    | _ => none
  | .slice t x lo hi mx => match mx with
    | none => (kR s.eval lo).bind fun l => (kR s.eval hi).bind fun h => (aCT P t (s.eval x) l h).bind fun v => k (s.put o.dst v)
    | some _ => (kR s.eval lo).bind fun l => (kR s.eval hi).bind fun h => (kR s.eval mx).bind fun c => (aCP P t (s.eval x) l h c).bind fun v => k (s.put o.dst v)
  | .fieldAddr t x f => (aAO P t (s.eval x) f).bind fun v => k (s.put o.dst v)
  | .field t x f => match s.eval x with
    | .agg cs => (aCS P t f).bind fun p => (aBN P p.2 cs p.1).bind fun v => k (s.put o.dst v)
    | _ => none
  | .indexAddr t x i => (qD P t (s.eval x) (s.eval i)).bind fun v => k (s.put o.dst v)
  | .index t x i => (aHA P t (s.eval x) (s.eval i)).bind fun v => k (s.put o.dst v)
  | .extract x i => match s.eval x with
    | .tup vs => (vs[i]?).bind fun v => k (s.put o.dst v.drop)
    | _ => none
  | .call c => match c.callee with
    | .builtin b => match b, c.args.toList with
      | .append, [x, y] => (aCE P c.argTypes (s.eval x) (s.eval y)).bind fun v => k ((s.take x).put o.dst v)
      | .len, [x] => (aTj P c.argTypes (s.eval x)).bind fun v => k (s.put o.dst v)
      | .clear, [x] => match s.eval x with
        | .bsl b z lo n => (s.box b).bind fun cs => (aJO P c.argTypes cs z lo n).bind fun cs' => k ((s.setBox b (some cs')).put o.dst .any)
        | _ => none
      | .max, [x, y] => (aP2 true (s.eval x) (s.eval y)).bind fun v => k (s.put o.dst v)
      | .min, [x, y] => (aP2 false (s.eval x) (s.eval y)).bind fun v => k (s.put o.dst v)
      | _, _ => none
    | .value g => match s.eval g with
      | .fn f caps => aA (decide (cQ c.args.toList).Nodup) <| aRI D (s.takes (aAC ta c.args.toList)) pu f (c.args.toList.map (rC ta s.eval) ++ caps) o.dst k
      | _ => none
    | .invoke _ _ => none
  | _ => none
def aQp (P : Program) (D : (bK m)) (nt : Nat) (mv pu ta : Bool) (ops : Array Oper) (o : Oper) (s : (St m)) (k : (St m) → Option β) : Option β :=
  match o.guard with
  | none => fO P D nt mv pu ta o s k
  | some (j, want) => match (ops[j]?).bind (·.dst) with
    | some t => pQ (s.tmps.getD t .any) want (fO P D nt mv pu ta o s k) (k (s.put o.dst .skip))
    | none => none
def kY (P : Program) (D : (bK m)) (nt : Nat) (mv pu ta : Nat → Bool) (ops : Array Oper) : List Oper → Nat → (St m) → ((St m) → Option β) → Option β
  | [], _, s, k => k s
  | o :: r, i, s, k => aQp P D nt (mv i) (pu i) (ta i) ops o s fun s' => kY P D nt mv pu ta ops r (i + 1) s' k
end
def aCK (mv : Bool) (o : Oper) : List Tmp :=
  match o.op with
  | .move x | .assign x => if mv then cQ [x] else []
  | .box _ x => cQ [x]
  | .store _ _ y => cQ [y]
  | .call c => match c.callee with
    | .builtin .append => cQ (c.args.toList.take 1)
    | .value _ => cQ c.args.toList
    | _ => []
  | _ => []
def iH (mv : Bool) (o : Oper) : List Tmp := o.dst.toList ++ aCK mv o
def gM (mv pu ta : Bool) (o : Oper) : Nat :=
  match o.op with
  | .load _ _ => if pu then (if mv then 2 else 1) else 0
  | .box _ _ | .alloc _ | .store _ _ _ | .makeSlice _ _ _ => 2
  | .call c => match c.callee with
    | .value _ => if pu then 0 else 2
    | .builtin .clear => 2
    | _ => 0
  | _ => 0
def aOU (o : Oper) : Bool := match o.op with | .box _ _ | .alloc _ | .makeSlice _ _ _ => true | _ => false
def aPc (mv pu ta : Nat → Bool) (ops : Array Oper) (i j : Nat) (x y : Oper) : Bool :=
  (iH (mv i) x).all (fun t => !(y.looksAt ops).contains t && !(iH (mv j) y).contains t) &&
  (iH (mv j) y).all (fun t => !(x.looksAt ops).contains t) &&
  (gM (mv i) (pu i) (ta i) x == 0 || gM (mv j) (pu j) (ta j) y == 0 || (gM (mv i) (pu i) (ta i) x == 1 && (gM (mv j) (pu j) (ta j) y == 1 || aOU y)))
def waits (ops : Array Oper) : Nat → Nat → Nat → Bool
  | 0, _, _ => false
  | n + 1, j, k => match ops[j]? with
    | some o => o.after.any fun e => Region.binds .any e && (e.on == k || waits ops n e.on k)
    | none => false
def aM5 (mv pu ta : Nat → Bool) (ops : Array Oper) : Nat → Nat → Array Bool → Bool
  | 0, _, listed => (Region.ready .any ops listed).isEmpty
  | n + 1, k, listed =>
    (Region.ready .any ops listed).contains k &&
    (List.range ops.size).all (fun j => j == k || listed.getD j true ||
      (match ops[k]?, ops[j]? with
       | some x, some y => y.after.any (fun e => Region.binds .any e && e.on == k) || (aPc mv pu ta ops k j x y || waits ops 8 j k)
       | _, _ => false)) &&
    aM5 mv pu ta ops n (k + 1) (listed.setIfInBounds k true)
def aAf (mv pu ta : Nat → Bool) (ops : Array Oper) : Bool := aM5 mv pu ta ops ops.size 0 (Array.replicate ops.size false)
inductive Out (m : Bool) where
  | norm (s : (St m))
  | exit (id : Nat) (s : (St m))
  | ret (s : (St m))
def St.forget (s : (St m)) (ts bs : List Nat) : (St m) :=
  { tmps := ts.foldl (fun l t => l.set t .any) s.tmps, boxes := bs.foldl (fun l b => l.set b none) s.boxes }
def SV.noPtr (bs : List Nat) : (SV m) → Bool | .ptr b _ => !bs.contains b | .bsl b _ _ _ => !bs.contains b | .kfn _ cs => (aJX cs).all fun b => !bs.contains b | _ => true
def SV.noBox (bs : List Nat) : (SV m) → Bool
  | .fn _ caps => caps.all (SV.noPtr bs)
  | .tup vs => vs.all (SV.noPtr bs)
  | v => v.noPtr bs
def St.noBox (s : (St m)) (bs : List Nat) : Bool := bs.isEmpty || (s.tmps.all (SV.noBox bs) && s.boxes.all fun | some cs => cs.all (SV.noBox bs) | none => true)
def St.again (s : (St m)) (ts bs : List Nat) : Option (St m) := aA ((s.forget ts bs).noBox bs) (some (s.forget ts bs))
def SV.refs : (SV m) → List Nat
  | .fn _ caps => caps.flatMap SV.boxIds
  | .tup vs => vs.flatMap SV.boxIds
  | v => v.boxIds
def St.refs (s : (St m)) : List Nat := s.tmps.flatMap SV.refs ++ s.boxes.flatMap fun | some cs => cs.flatMap SV.refs | none => []
def St.tidy (s : (St m)) (ts : List Nat) : List Nat → (St m)
  | [] => s.forget ts []
  | b :: bs => (s.again ts ((b :: bs).filter fun b => !(s.forget ts []).refs.contains b)).getD (s.forget ts [])
def SV.frzF (b : Nat) (ls : List (aC m)) : (SV m) → (SV m)
  | .ptr b' o => if b' = b then .eptr (Fl.kept m) ls o else .ptr b' o
  | .bsl b' z lo n => if b' = b then .any else .bsl b' z lo n
  | .kfn f cs => if (aJX cs).contains b = true then .any else .kfn f cs
  | v => v
def SV.lift (φ : (SV m) → (SV m)) : (SV m) → (SV m)
  | .fn g caps => .fn g (caps.map φ)
  | .tup vs => .tup (vs.map φ)
  | .own e es => .own e es
  | .raw e es => .raw e es
  | v => φ v
def St.froz (s : (St m)) (b : Nat) (φ : (SV m) → (SV m)) : (St m) := { tmps := s.tmps.map (SV.lift φ), boxes := (s.boxes.set b none).map (Option.map (List.map (SV.lift φ))) }
def aGP (b : Nat) : List (SV m) → Option (List (Option (Nat × Nat)))
  | [] => some []
  | .ptr b' o :: r => if b' = b then (if o = 0 then (aGP b r).map (none :: ·) else none) else (aGP b r).map (some (b', o) :: ·)
  | _ :: _ => none
def SV.frkF (b : Nat) (f : FuncId) (cs : List (Option (Nat × Nat))) : (SV m) → (SV m)
  | .ptr b' o => if b' = b then (if o = 0 then .kfn f cs else .any) else .ptr b' o
  | .bsl b' z lo n => if b' = b then .any else .bsl b' z lo n
  | .kfn f' cs' => if (aJX cs').contains b = true then .any else .kfn f' cs'
  | v => v
def St.freeze1 (s : (St m)) (b : Nat) : (St m) := match (aW s.boxes b).bind cM with
  | some [] => s
  | some (l :: ls) => s.froz b (SV.frzF b (l :: ls))
  | none => match aW s.boxes b with
    | some [.fn f caps] => match aGP b caps with
      | some cs => s.froz b (SV.frkF b f cs)
      | none => s
    | _ => s
def kK (es : List (List (aC m))) : List (SV m) := es.flatten.map .leaf
def St.mend (s : (St m)) (nt t k : Nat) : (St m) := match k, s.tmps.getD t .any with
  | 1, .raw e es => { s with tmps := s.tmps.set t (.own e es) }
  | 2, .own e [] => { s with tmps := s.tmps.set t (.raw e []) }
  | k + 3, .raw _ es => match aW s.boxes t, decide (t < nt ∧ t < s.boxes.length) with
    | none, true => { tmps := s.tmps.set t (.bsl t k 0 es.length), boxes := s.boxes.set t (some (kK es)) }
    | _, _ => s
  | _, _ => s
def St.freeze (nt : Nat) (s : (St m)) : List Nat → (St m)
  | [] => s
  | b :: bs => (match b / 4096 with | 0 => s.freeze1 b | k + 1 => s.mend nt (b % 4096) (k + 1)).freeze nt bs
def St.dropC (s : (St m)) (d : Nat → List Nat × List Nat) : Operand → (St m)
  | .tmp t => s.tidy (d t).1 (d t).2
  | _ => s
def rounds (body : (St m) → Option (Out m)) (again : (St m) → Option (St m)) : Nat → (St m) → Option (Out m)
  | 0, _ => none
  | n + 1, s => (again s).bind fun s => (body s).bind fun
    | .norm s' => rounds body again n s'
    | o => some o
def aNd {β : Type} (f : (St m) → Option β) (k : (Out m) → Option β) : (Out m) → Option β
  | .norm s => f s
  | .exit id s => k (.exit id s)
  | .ret s => k (.ret s)
def uJ {β : Type} (id : Nat) (k : (Out m) → Option β) : (Out m) → Option β
  | .norm s => k (.norm s)
  | .exit id' s => if id' = id then k (.norm s) else k (.exit id' s)
  | .ret s => k (.ret s)
def eU {β : Type} (P : Program) (D : (bK m)) (H : gB) (loop : ((St m) → Option (Out m)) → ((St m) → Option (St m)) → (St m) → Option (Out m)) : Nat → Code → (St m) → ((Out m) → Option β) → Option β
  | _, .skip, s, k => k (.norm s)
  | _, .region id ops draw, s, k => aA (!draw || aAf (H.mv id) (H.pure id) (H.take id) ops) (kY P D H.nt (H.mv id) (H.pure id) (H.take id) ops ops.toList 0 (St.freeze H.nt s (H.fz (4194304 + id))) fun s' => k (.norm (St.freeze H.nt (s'.tidy (H.after id) (H.afterB id)) (H.fz id))))
  | blk, .seq a b, s, k => eU P D H loop blk a s (aNd (fun s' => eU P D H loop blk b s' k) k)
  | blk, .cond c a b, s, k => oM (s.eval c) fun t => aB t (eU P D H loop blk a (s.dropC H.condA c) k) (eU P D H loop blk b (s.dropC H.condB c) k)
  | _, .block id a, s, k => eU P D H loop id a s (uJ id k)
  | blk, .loop a, s, k => (loop (fun s => eU P D H loop blk a s some) (fun s => s.again (H.clear blk) (H.drop blk)) s).bind k
  | _, .exit id, s, k => k (.exit id s)
  | _, .ret, s, k => k (.ret s)
  | _, _, _, _ => none
def aRP (n : Nat) (l : List (SV m)) : List (SV m) := l ++ List.replicate (n - l.length) .any
def kH {α : Type} (z : Nat) : Nat → List α → List (List α)
  | 0, _ => []
  | n + 1, l => l.take z :: kH z n (l.drop z)
def aSD : Option (List (SV m)) → Bool | some (_ :: _) => true | _ => false
def aQg (nt : Nat) (s : (St m)) : (SV m) → Option (SV m)
  | .bsl b z lo n => if b < nt ∧ lo = 0 then (s.box b).bind fun cs => if n * z ≤ cs.length ∧ 0 < z then (cM (cs.take (n * z))).map fun l => .leaf (.sl (Fl.new m) (kH z n l)) else none else if nt ≤ b then some (.bsl b z lo n) else none
  | v => some v
def aHx (P : Program) (nt : Nat) (s : (St m)) : ResultVar → Option (SV m)
  | .tmp t => aQg nt s (s.tmps.getD t .any)
  | .cell a t => match s.tmps.getD a .any with
    | .ptr b p => (s.box b).bind fun cs =>
      if kW P t then (dS P t).bind fun n => if p + n ≤ cs.length then (cM ((cs.drop p).take n)).map .agg else none
      else if b < nt then cs[p]? else none
    | _ => none
def aFd (P : Program) (nt : Nat) (s : (St m)) : List ResultVar → Option (List (SV m))
  | [] => some []
  | r :: rs => (aHx P nt s r).bind fun v => (aFd P nt s rs).map (v.drop :: ·)
def aIe (P : Program) (fn : Func) (s : (St m)) : Option (SV m) :=
  match fn.results.toList with
  | [r] => aHx P fn.ntmps s r
  | rs => (aFd P fn.ntmps s rs).map .tup
def SV.homeOk (nt n : Nat) : (SV m) → Bool
  | .bsl b _ _ _ => decide (nt ≤ b) && decide (b < nt + n)
  | v => v.flatT
def aBm (fn : Func) (args : List (SV m)) (boxes : List (List (SV m))) : (St m) :=
  { tmps := aRP fn.ntmps (args.map (SV.ren (fn.ntmps + ·))), boxes := List.replicate fn.ntmps none ++ boxes.map some }
def wO (P : Program) (fn : Func) (n : Nat) (s : (St m)) : Option ((SV m) × List (List (SV m))) :=
  (aIe P fn s).bind fun v => aA (SV.homeOk fn.ntmps n v) <|
    (sF s.boxes ((List.range n).map (fn.ntmps + ·))).bind fun cs => aA (cs.all (·.all SV.flat)) (some (v.ren (· - fn.ntmps), cs))
def aTR (P : Program) (fn : Func) (n : Nat) : (Out m) → Option ((SV m) × List (List (SV m)))
  | .norm s => wO P fn n s
  | .ret s => wO P fn n s
  | .exit _ _ => none
def aOM (P : Program) (D : (bK m)) (H : FuncId → gB) (loop : ((St m) → Option (Out m)) → ((St m) → Option (St m)) → (St m) → Option (Out m)) : (bK m) := fun f args boxes =>
  match P.funcs[f]? with
  | some fn => match fn.body with
    | some c => eU P D ((H f).fit fn.ntmps) loop 0 c (St.freeze fn.ntmps (aBm fn args boxes) ((H f).fz 1048576)) (aTR P fn boxes.length)
    | none => none
  | none => none
abbrev aLb (m : Bool) := FuncId → Option (List (SV m) → List (List (SV m)) → Option ((SV m) × List (List (SV m))))
def aBh (P : Program) (T : (aLb m)) (H : FuncId → gB) : Nat → (bK m)
  | 0 => fun _ _ _ => none
  | n + 1 => fun f args boxes => match T f with
    | some t => t args boxes
    | none => aOM P (aBh P T H n) H (fun body again s => rounds body again n s) f args boxes
end Go.Vs
end
section
set_option linter.unusedVariables false
set_option linter.unusedSimpArgs false
namespace Go.Vs
variable {m : Bool}
structure Eff (m : Bool) where
  tmps : List (Tmp × (SV m))
  boxes : Option (gU m)
def Eff.app (e : (Eff m)) (s : (St m)) : (St m) := { tmps := eO s.tmps e.tmps, boxes := e.boxes.getD s.boxes }
def qJ (dst : Option Tmp) (v : (SV m)) : List (Tmp × (SV m)) := match dst with | some d => [(d, v)] | none => []
theorem jV (l : List (SV m)) (a b : List (Tmp × (SV m))) : eO l (a ++ b) = eO (eO l a) b := by simp [eO]
theorem tM (s : (St m)) (dst : Option Tmp) (v : (SV m)) : s.put dst v = { s with tmps := eO s.tmps (qJ dst v) } := by
  cases dst <;> simp [St.put, qJ, eO]
def aEX (D : (bK m)) (bs : (gU m)) (pureHint : Bool) (f : FuncId) (args : List (SV m)) : Option ((SV m) × Option (gU m)) :=
  aA (args.all SV.handed) <|
    if pureHint then
      if jM args = [] then (D f args []).map fun r => (r.1, none) else none
    else
      (sF bs (jM args)).bind fun cs => aA (cs.all (·.all SV.flat)) <|
        (D f (args.map (SV.ren (gV (jM args)))) cs).map fun r => (r.1.ren ((jM args).getD · 0), some (iO bs (jM args) r.2))
def cV (P : Program) (D : (bK m)) (nt : Nat) (mv pu ta : Bool) (o : Oper) (ρ : Operand → (SV m)) (bs : (gU m)) : Option (Eff m) :=
  let val (v : Option (SV m)) : Option (Eff m) := v.map fun v => ⟨qJ o.dst v, none⟩
  match o.op with
  | .move x | .assign x => if mv then some ⟨kG ρ x ++ qJ o.dst (aJW P o.type (ρ x)), none⟩ else some ⟨qJ o.dst (ρ x).drop, none⟩
  | .pick c a b => oM (ρ c) fun c => aB c (some ⟨qJ o.dst (ρ a).drop, none⟩) (some ⟨qJ o.dst (ρ b).drop, none⟩)
  | .box _ x => match o.dst with
    | some d => match aW bs d with
      | none => aA (decide (d < nt) && ((ρ x).data || aD0 (ρ x))) (some ⟨kG ρ x ++ [(d, .ptr d 0)], some (bs.set d (some (ρ x).cells))⟩)
      | some _ => none
    | none => none
  | .alloc t => match o.dst with
    | some d => match aW bs d with
      | none => aA (decide (d < nt)) <| (aMN P t).map fun z => ⟨[(d, .ptr d 0)], some (bs.set d (some z))⟩
      | some _ => none
    | none => none
  | .makeSlice t l c => match o.dst with
    | some d => match aW bs d with
      | none => aA (decide (d < nt)) <| (aNP P t (ρ l) (ρ c)).map fun p => ⟨[(d, .bsl d p.1.1 0 p.1.2)], some (bs.set d (some p.2))⟩
      | some _ => none
    | none => none
  | .build t parts => val (aMa P t mv (parts.toList.map fun p => (p.1, ρ p.2)))
  | .buildSlice t n parts => val (tN P t n (parts.toList.map fun p => (p.1, ρ p.2)))
  | .load t x => match ρ x with
    | .eptr _ e p => val (aBN P t e p)
    | .kfn f cs => aA (!kW P t) (val (some (unK f cs)))
    | .ptr b p => aA pu <| (aW bs b).bind fun cs =>
      if kW P t then (dS P t).bind fun n => if p + n ≤ cs.length then (cM ((cs.drop p).take n)).map fun l => ⟨qJ o.dst (.agg l), none⟩ else none
      else (cs[p]?).map fun c => if mv then ⟨qJ o.dst c, some (bs.set b (some (cs.set p c.drop)))⟩ else ⟨qJ o.dst c.drop, none⟩
    | _ => none
  | .store t x y => match ρ x with
    | .eptr c e p => if (c.isSoft = true ∧ eG e p = true) ∧ (ρ y).plain = true ∧ dS P t = some 1 then val (some .skip) else none
    | .ptr b p => (aW bs b).bind fun cs => (dS P t).bind fun n => aA ((ρ y).data || aD0 (ρ y)) <|
      if n = (ρ y).cells.length ∧ p + n ≤ cs.length then some ⟨kG ρ y ++ qJ o.dst .skip, some (bs.set b (some (cs.take p ++ (ρ y).cells ++ cs.drop (p + n))))⟩ else none
    | _ => none
  | .nilCheck x => match ρ x with
    | .ptr b p => val (some (.ptr b p))
    | .eptr c e p => val (some (.eptr c e p))
    | .kfn f cs => val (some (.kfn f cs))
    | _ => none
  | .binOp op t x y _ => val (aPa P op t (ρ x) (ρ y))
  | .unOp op _ x => val (unV op (ρ x))
  | .convert src dst x => val (aK5 P src dst (ρ x))
  | .makeFunc fn first caps => match fn with
    | .func f => if first.size = 0 then aA ((caps.toList.map ρ).all aPS) (val (some (.fn f (caps.toList.map ρ)))) else none
    | _ => none
  | .slice t x lo hi mx => match mx with
    | none => (kR ρ lo).bind fun l => (kR ρ hi).bind fun h => val (aCT P t (ρ x) l h)
    | some _ => (kR ρ lo).bind fun l => (kR ρ hi).bind fun h => (kR ρ mx).bind fun c => val (aCP P t (ρ x) l h c)
  | .fieldAddr t x f => val (aAO P t (ρ x) f)
  | .field t x f => match ρ x with
    | .agg cs => (aCS P t f).bind fun p => val (aBN P p.2 cs p.1)
    | _ => none
  | .indexAddr t x i => val (qD P t (ρ x) (ρ i))
  | .index t x i => val (aHA P t (ρ x) (ρ i))
  | .extract x i => match ρ x with
    | .tup vs => (vs[i]?).bind fun v => val (some v.drop)
    | _ => none
  | .call c => match c.callee with
    | .builtin b => match b, c.args.toList with
      | .append, [x, y] => (aCE P c.argTypes (ρ x) (ρ y)).map fun v => ⟨kG ρ x ++ qJ o.dst v, none⟩
      | .len, [x] => val (aTj P c.argTypes (ρ x))
      | .clear, [x] => match ρ x with
        | .bsl b z lo n => (aW bs b).bind fun cs => (aJO P c.argTypes cs z lo n).map fun cs' => ⟨qJ o.dst .any, some (bs.set b (some cs'))⟩
        | _ => none
      | .max, [x, y] => val (aP2 true (ρ x) (ρ y))
      | .min, [x, y] => val (aP2 false (ρ x) (ρ y))
      | _, _ => none
    | .value g => match ρ g with
      | .fn f caps => aA (decide (cQ c.args.toList).Nodup) <| (aEX D bs pu f (c.args.toList.map (rC ta ρ) ++ caps)).map fun r => ⟨(aAC ta c.args.toList).flatMap (kG ρ) ++ qJ o.dst r.1, r.2⟩
      | _ => none
    | .invoke _ _ => none
  | _ => none
theorem aFA {β : Type} (P : Program) (D : (bK m)) (nt : Nat) (mv pu ta : Bool) (o : Oper) (s : (St m)) (k : (St m) → Option β) :
    fO P D nt mv pu ta o s k = (cV P D nt mv pu ta o s.eval s.boxes).bind fun e => k (e.app s) := by
  obtain ⟨dst, op, type, pos, after, guard⟩ := o
  have hd : ∀ v, s.put dst v = (⟨qJ dst v, none⟩ : (Eff m)).app s := fun v => by rw [tM]; rfl
  have ht : ∀ x v, (s.take x).put dst v = (⟨kG s.eval x ++ qJ dst v, none⟩ : (Eff m)).app s := fun x v => by
    rw [tM]; simp [St.take, St.takes, Eff.app, jV]
  cases op
  case move x => simp only [fO, cV]; split <;> simp [hd, ht]
  case assign x => simp only [fO, cV]; split <;> simp [hd, ht]
  case pick c a b =>
    simp only [fO, cV, hd]
    cases s.eval c <;> simp [oM]
    rename_i l
    cases l <;> simp
    rename_i b
    cases b <;> simp [aB]
  case box t x =>
    simp only [fO, cV]
    cases dst with
    | none => rfl
    | some d =>
      simp only [St.box]
      cases aW s.boxes d with
      | some _ => rfl
      | none =>
        simp only
        cases (decide (d < nt) && ((s.eval x).data || aD0 (s.eval x))) <;> simp [aA]
        congr 1
        simp [Eff.app, St.put, St.setBox, St.take, St.takes, eO]
  case alloc t =>
    simp only [fO, cV]
    cases dst with
    | none => rfl
    | some d =>
      simp only [St.box]
      cases aW s.boxes d with
      | some _ => rfl
      | none => cases decide (d < nt) <;> cases aMN (m := m) P t <;> simp [aA, Eff.app, St.put, St.setBox, eO]
  case makeSlice t l c =>
    simp only [fO, cV]
    cases dst with
    | none => rfl
    | some d =>
      simp only [St.box]
      cases aW s.boxes d with
      | some _ => rfl
      | none => cases decide (d < nt) <;> cases aNP P t (s.eval l) (s.eval c) <;> simp [aA, Eff.app, St.put, St.setBox, eO]
  case build t parts => simp only [fO, cV, hd]; cases aMa P t mv (parts.toList.map fun p => (p.1, s.eval p.2)) <;> simp
  case buildSlice t n parts => simp only [fO, cV, hd]; cases tN P t n (parts.toList.map fun p => (p.1, s.eval p.2)) <;> simp
  case load t x =>
    simp only [fO, cV, hd]
    cases s.eval x <;> simp only [Option.bind_none]
    · rename_i b p
      simp only [St.box]
      cases pu with
      | false => rfl
      | true =>
      simp only [aA]
      cases aW s.boxes b with
      | none => rfl
      | some cs =>
        simp only [Option.bind_some]
        split
        · cases dS P t with
          | none => rfl
          | some n =>
            simp only [Option.bind_some]
            split
            · cases cM ((cs.drop p).take n) <;> simp
            · rfl
        · cases cs[p]? with
          | none => rfl
          | some c => cases mv <;> simp [Eff.app, St.put, St.setBox, qJ, eO] <;> cases dst <;> simp
    · rename_i c e p
      cases aBN P t e p <;> simp
    · cases (!kW P t) <;> simp [aA]
  case store t x y =>
    simp only [fO, cV]
    cases s.eval x <;> simp only [Option.bind_none]
    rotate_left
    · rename_i c e p
      split
      · simp [hd]
      · rfl
    rename_i b p
    simp only [St.box]
    cases aW s.boxes b with
    | none => rfl
    | some cs =>
      simp only [Option.bind_some]
      cases dS P t with
      | none => rfl
      | some n =>
        simp only [Option.bind_some]
        cases ((s.eval y).data || aD0 (s.eval y)) <;> simp only [aA, Option.bind_none]
        split
        · simp only [Option.bind_some]
          congr 1
          rw [tM]
          simp [Eff.app, St.setBox, St.take, St.takes, jV]
        · rfl
  case nilCheck x => simp only [fO, cV, hd]; cases s.eval x <;> simp
  case binOp op t x y u => simp only [fO, cV, hd]; cases aPa P op t (s.eval x) (s.eval y) <;> simp
  case unOp op t x => simp only [fO, cV, hd]; cases unV op (s.eval x) <;> simp
  case convert a b x => simp only [fO, cV, hd]; cases aK5 P a b (s.eval x) <;> simp
  case makeFunc fn first caps =>
    simp only [fO, cV, hd]
    cases fn <;> simp only [Option.bind_none]
    split
    · cases (caps.toList.map s.eval).all aPS <;> simp [aA]
    · rfl
  case slice t x lo hi mx =>
    simp only [fO, cV, hd]
    cases mx with
    | none =>
      cases kR s.eval lo with
      | none => rfl
      | some l =>
        cases kR s.eval hi with
        | none => rfl
        | some h => simp only [Option.bind_some]; cases aCT P t (s.eval x) l h <;> simp
    | some mx =>
      simp only
      cases kR s.eval lo with
      | none => rfl
      | some l =>
        cases kR s.eval hi with
        | none => rfl
        | some h =>
          simp only [Option.bind_some]
          cases kR s.eval (some mx) with
          | none => rfl
          | some c => simp only [Option.bind_some]; cases aCP P t (s.eval x) l h c <;> simp
  case fieldAddr t x f => simp only [fO, cV, hd]; cases aAO P t (s.eval x) f <;> simp
  case field t x f =>
    simp only [fO, cV, hd]
    cases s.eval x <;> simp only [Option.bind_none]
    rename_i cs
    cases aCS P t f with
    | none => rfl
    | some p => simp only [Option.bind_some]; cases aBN P p.2 cs p.1 <;> simp
  case indexAddr t x i => simp only [fO, cV, hd]; cases qD P t (s.eval x) (s.eval i) <;> simp
  case index t x i => simp only [fO, cV, hd]; cases aHA P t (s.eval x) (s.eval i) <;> simp
  case extract x i =>
    simp only [fO, cV, hd]
    cases s.eval x <;> simp only [Option.bind_none]
    rename_i vs
    cases vs[i]? <;> simp
  case call c =>
    simp only [fO, cV, hd]
    cases c.callee with
    | invoke _ _ => rfl
    | builtin b =>
      simp only
      generalize c.args.toList = l
      cases b <;> (try rfl) <;> (rcases l with _ | ⟨x, _ | ⟨y, _ | ⟨z, r⟩⟩⟩ <;> (try rfl))
      · simp only [ht]; cases aCE P c.argTypes (s.eval x) (s.eval y) <;> rfl
      · simp only
        cases s.eval x <;> simp only [Option.bind_none]
        rename_i b z lo n
        simp only [St.box]
        cases aW s.boxes b with
        | none => rfl
        | some cs =>
          simp only [Option.bind_some]
          cases aJO P c.argTypes cs z lo n with
          | none => rfl
          | some cs' =>
            simp only [Option.bind_some, Option.map_some]
            congr 1
            rw [tM]
            simp [Eff.app, St.setBox]
      · simp only; cases aTj P c.argTypes (s.eval x) <;> rfl
      · simp only; cases aP2 true (s.eval x) (s.eval y) <;> rfl
      · simp only; cases aP2 false (s.eval x) (s.eval y) <;> rfl
    | value g =>
      simp only
      cases s.eval g <;> simp only [Option.bind_none]
      rename_i f caps
      simp only [aRI, aEX]
      cases decide (cQ c.args.toList).Nodup <;> simp only [aA, Option.bind_none]
      cases (c.args.toList.map (rC ta s.eval) ++ caps).all SV.handed <;> simp only [aA, Option.map_none, Option.bind_none]
      cases pu
      · simp only [Bool.false_eq_true, if_false, St.takes]
        cases sF s.boxes (jM (c.args.toList.map (rC ta s.eval) ++ caps)) with
        | none => rfl
        | some cs =>
          simp only [Option.bind_some]
          cases cs.all (·.all SV.flat) <;> simp only [Option.map_none, Option.bind_none]
          cases D f ((c.args.toList.map (rC ta s.eval) ++ caps).map (SV.ren (gV (jM (c.args.toList.map (rC ta s.eval) ++ caps))))) cs with
          | none => rfl
          | some r =>
            simp only [Option.bind_some, Option.map_some]
            congr 1
            rw [tM]
            simp [Eff.app, jV]
      · simp only [if_true]
        split
        · cases D f (c.args.toList.map (rC ta s.eval) ++ caps) [] with
          | none => rfl
          | some r =>
            simp only [Option.bind_some, Option.map_some]
            congr 1
            rw [tM]
            simp [Eff.app, St.takes, jV]
        · rfl
  all_goals rfl
end Go.Vs
end
section
namespace Go.Vs
variable {m : Bool}
section
variable {P : Program} {D : (bK m)} {ops : Array Oper} {nt : Nat} {mv pu ta : Nat → Bool}
def mK (P : Program) (D : (bK m)) (nt : Nat) (mv pu ta : Bool) (ops : Array Oper) (o : Oper) (s : (St m)) : Option (Eff m) :=
  match o.guard with
  | none => cV P D nt mv pu ta o s.eval s.boxes
  | some (j, want) => match (ops[j]?).bind (·.dst) with
    | some t => pQ (s.tmps.getD t .any) want (cV P D nt mv pu ta o s.eval s.boxes) (some ⟨qJ o.dst .skip, none⟩)
    | none => none
theorem aOK {α β : Type} (v : (SV m)) (want : Bool) (x y : Option α) (f : α → Option β) : (pQ v want x y).bind f = pQ v want (x.bind f) (y.bind f) := by
  unfold pQ
  cases v <;> try rfl
  rename_i l
  cases l <;> try rfl
  rename_i b
  simp only [aB]
  cases b == want <;> rfl
theorem aAa {β : Type} (mv pu ta : Bool) (o : Oper) (s : (St m)) (k : (St m) → Option β) :
    aQp P D nt mv pu ta ops o s k = (mK P D nt mv pu ta ops o s).bind fun e => k (e.app s) := by
  unfold aQp mK
  cases o.guard with
  | none => exact aFA ..
  | some g =>
    obtain ⟨j, want⟩ := g
    simp only
    cases (ops[j]?).bind (·.dst) with
    | none => rfl
    | some t =>
      simp only [aOK, aFA, Option.bind_some]
      rw [tM]; rfl
theorem uC {ρ ρ' : Operand → (SV m)} {x : Operand} (h : ρ x = ρ' x) : kG ρ x = kG ρ' x := by cases x <;> simp_all [kG]
theorem uQ {ρ ρ' : Operand → (SV m)} {x : Option Operand} (h : ∀ y ∈ x.toArray, ρ y = ρ' y) : kR ρ x = kR ρ' x := by cases x <;> simp_all [kR]
theorem aGj {ρ ρ' : Operand → (SV m)} {l : List Operand} (h : ∀ y ∈ l, ρ y = ρ' y) : l.flatMap (kG ρ) = l.flatMap (kG ρ') := by
  induction l with
  | nil => rfl
  | cons x l ih => simp only [List.flatMap_cons]; rw [uC (h x (by simp)), ih fun y hy => h y (by simp [hy])]
theorem aPb {β : Type} {b : Bool} {x : Option β} {y : β} (h : aA b x = some y) : b = true ∧ x = some y := by
  cases b
  · simp [aA] at h
  · exact ⟨rfl, h⟩
theorem aQ8 {mv pu ta : Bool} {o : Oper} {ρ ρ' : Operand → (SV m)} {bs bs' : (gU m)} (h : ∀ x ∈ o.op.operands, ρ x = ρ' x) (hb : gM mv pu ta o ≠ 0 → bs = bs') :
    cV P D nt mv pu ta o ρ bs = cV P D nt mv pu ta o ρ' bs' := by
  obtain ⟨dst, op, type, pos, after, guard⟩ := o
  have pairs : ∀ ps : Array (Nat × Operand), (∀ x ∈ (ps.toList.map (·.2)), ρ x = ρ' x) → (ps.toList.map fun p => (p.1, ρ p.2)) = (ps.toList.map fun p => (p.1, ρ' p.2)) := fun ps hp =>
    List.map_congr_left fun p hm => by rw [hp p.2 (List.mem_map.2 ⟨p, hm, rfl⟩)]
  cases op
  case build t ps => simp only [cV]; rw [pairs ps fun x hx => h x (by simpa [Op.operands] using hx)]
  case buildSlice t n ps => simp only [cV]; rw [pairs ps fun x hx => h x (by simpa [Op.operands] using hx)]
  case makeFunc fn first caps =>
    simp only [cV]
    rw [List.map_congr_left (l := caps.toList) (g := ρ') fun x hx => h x (by simp only [Op.operands, Array.mem_append]; exact .inr (by simpa using hx))]
  case slice t x lo hi mx =>
    simp only [cV]
    cases mx with
    | some mx =>
      simp only
      rw [h x (by simp [Op.operands]), uQ (x := lo) fun y hy => h y (by simp only [Op.operands, Array.mem_append]; exact .inl (.inl (.inr hy))),
        uQ (x := hi) fun y hy => h y (by simp only [Op.operands, Array.mem_append]; exact .inl (.inr hy)),
        uQ (x := some mx) fun y hy => h y (by simp only [Op.operands, Array.mem_append]; exact .inr hy)]
    | none =>
      simp only
      rw [h x (by simp [Op.operands]), uQ (x := lo) fun y hy => h y (by simp only [Op.operands, Array.mem_append]; exact .inl (.inl (.inr hy))),
        uQ (x := hi) fun y hy => h y (by simp only [Op.operands, Array.mem_append]; exact .inl (.inr hy))]
  case call c =>
    simp only [cV]
    have hargs : ∀ x ∈ c.args.toList, ρ x = ρ' x := fun x hx => h x (by simp only [Op.operands, Call.operands, Array.mem_append]; exact .inr (by simpa using hx))
    cases hc : c.callee with
    | invoke _ _ => rfl
    | builtin b =>
      simp only
      generalize c.args.toList = l at hargs
      cases b <;> (try rfl) <;> (rcases l with _ | ⟨x, _ | ⟨y, _ | ⟨z, r⟩⟩⟩ <;> (try rfl))
      · simp only; rw [hargs x (by simp), hargs y (by simp), uC (hargs x (by simp))]
      · simp only; rw [hargs x (by simp), hb (by simp [gM, hc])]
      · simp only; rw [hargs x (by simp)]
      · simp only; rw [hargs x (by simp), hargs y (by simp)]
      · simp only; rw [hargs x (by simp), hargs y (by simp)]
    | value g =>
      have hg : ρ g = ρ' g := h g (by simp [Op.operands, Call.operands, hc])
      simp only
      have e1 : c.args.toList.map (rC ta ρ) = c.args.toList.map (rC ta ρ') := List.map_congr_left fun x hx => by unfold rC; rw [hargs x hx]
      have e2 : (aAC ta c.args.toList).flatMap (kG ρ) = (aAC ta c.args.toList).flatMap (kG ρ') := aGj fun x hx => hargs x (by cases ta with | true => exact hx | false => simp [aAC] at hx)
      rw [hg, e1, e2]
      cases ρ' g <;> try rfl
      rename_i f caps
      simp only
      congr 2
      unfold aEX
      cases pu
      · rw [hb (by simp [gM, hc])]
      · rfl
  case load t x =>
    simp only [cV]
    rw [h x (by simp [Op.operands])]
    cases pu with
    | false => rfl
    | true => rw [hb (by simp only [gM, if_true]; split <;> simp)]
  case store t x y =>
    simp only [cV]
    rw [h x (by simp [Op.operands]), h y (by simp [Op.operands]), uC (h y (by simp [Op.operands])), hb (by simp [gM])]
  case box t x =>
    simp only [cV]
    rw [h x (by simp [Op.operands]), uC (h x (by simp [Op.operands])), hb (by simp [gM])]
  case alloc t => simp only [cV]; rw [hb (by simp [gM])]
  case makeSlice t l c => simp only [cV]; rw [h l (by simp [Op.operands]), h c (by simp [Op.operands]), hb (by simp [gM])]
  case move x => simp only [cV]; rw [h x (by simp [Op.operands]), uC (h x (by simp [Op.operands]))]
  case assign x => simp only [cV]; rw [h x (by simp [Op.operands]), uC (h x (by simp [Op.operands]))]
  case pick c a b => simp only [cV]; rw [h c (by simp [Op.operands]), h a (by simp [Op.operands]), h b (by simp [Op.operands])]
  all_goals first | (simp only [cV]; done) | (simp only [cV]; simp_all [Op.operands]; done)
theorem aBZ {ρ : Operand → (SV m)} {x : Operand} {p : Tmp × (SV m)} (h : p ∈ kG ρ x) : p.1 ∈ cQ [x] := by
  cases x <;> simp_all [kG, cQ]
theorem aQE {ρ : Operand → (SV m)} {l : List Operand} {p : Tmp × (SV m)} (h : p ∈ l.flatMap (kG ρ)) : p.1 ∈ cQ l := by
  obtain ⟨x, hx, hp⟩ := List.mem_flatMap.1 h
  have := aBZ hp
  simp only [cQ, List.mem_filterMap] at this ⊢
  obtain ⟨y, hy, e⟩ := this
  exact ⟨y, by simp at hy; subst hy; exact hx, e⟩
theorem qM {dst : Option Tmp} {v : (SV m)} {p : Tmp × (SV m)} (h : p ∈ qJ dst v) : p.1 ∈ dst.toList := by
  cases dst <;> simp_all [qJ]
theorem aMY {mv pu ta : Bool} {o : Oper} {ρ : Operand → (SV m)} {bs : (gU m)} {e : (Eff m)} (h : cV P D nt mv pu ta o ρ bs = some e) :
    (∀ p ∈ e.tmps, p.1 ∈ iH mv o) ∧ (gM mv pu ta o ≠ 2 → e.boxes = none) := by
  obtain ⟨dst, op, type, pos, after, guard⟩ := o
  have val : ∀ {v : Option (SV m)}, (v.map fun v => (⟨qJ dst v, none⟩ : (Eff m))) = some e → (∀ p ∈ e.tmps, p.1 ∈ dst.toList) ∧ e.boxes = none := by
    intro v hv
    obtain ⟨u, _, rfl⟩ := Option.map_eq_some_iff.1 hv
    exact ⟨fun p hp => qM hp, rfl⟩
  have fin : ∀ {op : Op}, (∀ p ∈ e.tmps, p.1 ∈ dst.toList) ∧ e.boxes = none → (∀ p ∈ e.tmps, p.1 ∈ iH mv ⟨dst, op, type, pos, after, guard⟩) ∧ (gM mv pu ta ⟨dst, op, type, pos, after, guard⟩ ≠ 2 → e.boxes = none) :=
    fun ⟨a, b⟩ => ⟨fun p hp => by simp only [iH, List.mem_append]; exact .inl (a p hp), fun _ => b⟩
  have mov : ∀ {x : Operand}, (if mv = true then some ⟨kG ρ x ++ qJ dst (aJW P type (ρ x)), none⟩ else some ⟨qJ dst (ρ x).drop, none⟩ : Option (Eff m)) = some e →
      (∀ p ∈ e.tmps, p.1 ∈ dst.toList ++ (if mv = true then cQ [x] else [])) ∧ e.boxes = none := by
    intro x hx
    split at hx
    · obtain rfl := Option.some.inj hx
      refine ⟨fun p hp => ?_, rfl⟩
      rename_i hm
      simp only [hm, if_true, List.mem_append]
      rcases List.mem_append.1 hp with h | h
      · exact .inr (aBZ h)
      · exact .inl (qM h)
    · obtain rfl := Option.some.inj hx
      exact ⟨fun p hp => List.mem_append.2 (.inl (qM hp)), rfl⟩
  cases op <;> simp only [cV] at h
  case move x => exact ⟨fun p hp => by simpa [iH, aCK] using (mov h).1 p hp, fun _ => (mov h).2⟩
  case assign x => exact ⟨fun p hp => by simpa [iH, aCK] using (mov h).1 p hp, fun _ => (mov h).2⟩
  case pick c a b =>
    refine fin ?_
    cases hc : ρ c <;> simp [hc, oM] at h
    rename_i l
    cases l <;> simp at h
    rename_i b
    cases b <;> simp [aB] at h <;> subst h <;> exact ⟨fun p hp => qM hp, rfl⟩
  case box t x =>
    refine ⟨?_, fun hne => absurd rfl hne⟩
    cases dst with
    | none => simp at h
    | some d =>
      simp only at h
      split at h
      · cases hg : (decide (d < nt) && ((ρ x).data || aD0 (ρ x))) <;> simp only [hg, aA] at h <;> try (simp at h; done)
        obtain h := Option.some.inj h
        subst h
        intro p hp
        simp only [iH, aCK, List.mem_append]
        rcases List.mem_append.1 hp with h | h
        · exact .inr (aBZ h)
        · exact .inl (by simp at h; subst h; simp)
      · simp at h
  case alloc t =>
    refine ⟨?_, fun hne => absurd rfl hne⟩
    cases dst with
    | none => simp at h
    | some d =>
      simp only at h
      split at h
      · cases hg : decide (d < nt) <;> simp only [hg, aA] at h <;> try (simp at h; done)
        obtain ⟨z, _, rfl⟩ := Option.map_eq_some_iff.1 h
        intro p hp
        simp at hp
        subst hp
        simp [iH]
      · simp at h
  case makeSlice t l c =>
    refine ⟨?_, fun hne => absurd rfl hne⟩
    cases dst with
    | none => simp at h
    | some d =>
      simp only at h
      split at h
      · cases hg : decide (d < nt) <;> simp only [hg, aA] at h <;> try (simp at h; done)
        obtain ⟨z, _, rfl⟩ := Option.map_eq_some_iff.1 h
        intro p hp
        simp at hp
        subst hp
        simp [iH]
      · simp at h
  case load t x =>
    refine ⟨?_, fun hne => ?_⟩ <;> cases hx : ρ x <;> simp only [hx] at h <;> try (simp at h; done)
    · obtain ⟨_, h⟩ := aPb h
      obtain ⟨cs, _, h⟩ := Option.bind_eq_some_iff.1 h
      intro p hp
      simp only [iH, List.mem_append]
      refine .inl ?_
      split at h
      · obtain ⟨n, _, h⟩ := Option.bind_eq_some_iff.1 h
        split at h
        · obtain ⟨l, _, rfl⟩ := Option.map_eq_some_iff.1 h; exact qM hp
        · simp at h
      · obtain ⟨c, _, rfl⟩ := Option.map_eq_some_iff.1 h
        cases mv <;> exact qM hp
    · exact (fin (val h)).1
    · cases hg : (!kW P t) <;> simp only [hg, aA] at h <;> try (simp at h; done)
      exact (fin (val h)).1
    · obtain ⟨hpu, h⟩ := aPb h
      have hm : mv = false := by subst hpu; cases mv <;> simp [gM] at hne ⊢
      obtain ⟨cs, _, h⟩ := Option.bind_eq_some_iff.1 h
      split at h
      · obtain ⟨n, _, h⟩ := Option.bind_eq_some_iff.1 h
        split at h
        · obtain ⟨l, _, rfl⟩ := Option.map_eq_some_iff.1 h; rfl
        · simp at h
      · obtain ⟨c, _, rfl⟩ := Option.map_eq_some_iff.1 h; simp [hm]
    · exact (fin (val h) (op := .load t x)).2 hne
    · cases hg : (!kW P t) <;> simp only [hg, aA] at h <;> try (simp at h; done)
      exact (fin (val h) (op := .load t x)).2 hne
  case store t x y =>
    refine ⟨?_, fun hne => absurd rfl hne⟩
    cases hx : ρ x <;> simp only [hx] at h <;> try (simp at h; done)
    rotate_left
    · split at h
      · exact (fin (val h)).1
      · simp at h
    obtain ⟨cs, _, h⟩ := Option.bind_eq_some_iff.1 h
    obtain ⟨n, _, h⟩ := Option.bind_eq_some_iff.1 h
    cases hf : ((ρ y).data || aD0 (ρ y)) <;> simp only [hf, aA] at h <;> try (simp at h; done)
    split at h
    · obtain rfl := Option.some.inj h
      intro p hp
      simp only [iH, aCK, List.mem_append]
      rcases List.mem_append.1 hp with h | h
      · exact .inr (aBZ h)
      · exact .inl (qM h)
    · simp at h
  case makeFunc fn first caps =>
    cases fn <;> simp only at h <;> try (simp at h; done)
    split at h
    · cases hg : (caps.toList.map ρ).all aPS <;> simp only [hg, aA] at h <;> try (simp at h; done)
      exact fin (val h)
    · simp at h
  case slice t x lo hi mx =>
    cases mx <;> simp only at h
    · obtain ⟨l, _, h⟩ := Option.bind_eq_some_iff.1 h
      obtain ⟨u, _, h⟩ := Option.bind_eq_some_iff.1 h
      exact fin (val h)
    · obtain ⟨l, _, h⟩ := Option.bind_eq_some_iff.1 h
      obtain ⟨u, _, h⟩ := Option.bind_eq_some_iff.1 h
      obtain ⟨c, _, h⟩ := Option.bind_eq_some_iff.1 h
      exact fin (val h)
  case nilCheck x => cases hx : ρ x <;> simp only [hx] at h <;> first | exact fin (val h) | (simp at h; done)
  case field t x f =>
    cases hx : ρ x <;> simp only [hx] at h <;> try (simp at h; done)
    obtain ⟨p, _, h⟩ := Option.bind_eq_some_iff.1 h
    exact fin (val h)
  case extract x i =>
    cases hx : ρ x <;> simp only [hx] at h <;> try (simp at h; done)
    obtain ⟨p, _, h⟩ := Option.bind_eq_some_iff.1 h
    exact fin (val h)
  case call c =>
    cases hc : c.callee with
    | invoke _ _ => simp [hc] at h
    | builtin b =>
      simp only [hc] at h
      have ha : ∀ x y, b = .append → c.args.toList = [x, y] → e.boxes = none → (∀ p ∈ e.tmps, p ∈ kG ρ x ∨ p.1 ∈ dst.toList) → (∀ p ∈ e.tmps, p.1 ∈ iH mv ⟨dst, .call c, type, pos, after, guard⟩) ∧ (gM mv pu ta ⟨dst, .call c, type, pos, after, guard⟩ ≠ 2 → e.boxes = none) := by
        intro x y hb hl he hp
        refine ⟨fun p hpe => ?_, fun _ => he⟩
        subst hb
        simp only [iH, aCK, hc, hl, List.mem_append, List.take_succ_cons, List.take_zero]
        exact (hp p hpe).elim (fun h => .inr (aBZ h)) .inl
      generalize hl : c.args.toList = l at h ha
      cases b <;> (try (simp at h; done)) <;> (rcases l with _ | ⟨x, _ | ⟨y, _ | ⟨z, r⟩⟩⟩ <;> (try (simp at h; done)))
      · obtain ⟨v, _, rfl⟩ := Option.map_eq_some_iff.1 h
        exact ha x y rfl rfl rfl fun p hp => (List.mem_append.1 hp).imp id qM
      · refine ⟨?_, fun hne => absurd (by simp [gM, hc]) hne⟩
        cases hx : ρ x <;> simp only [hx] at h <;> try (simp at h; done)
        obtain ⟨cs, _, h⟩ := Option.bind_eq_some_iff.1 h
        obtain ⟨cs', _, rfl⟩ := Option.map_eq_some_iff.1 h
        intro p hp
        simp only [iH, List.mem_append]
        exact .inl (qM hp)
      · exact fin (val h)
      · exact fin (val h)
      · exact fin (val h)
    | value g =>
      simp only [hc] at h
      cases hg : ρ g <;> simp only [hg] at h <;> try (simp at h; done)
      rename_i f caps
      cases hn : decide (cQ c.args.toList).Nodup <;> simp only [hn, aA] at h <;> try (simp at h; done)
      obtain ⟨r, hr, rfl⟩ := Option.map_eq_some_iff.1 h
      refine ⟨fun p hp => ?_, fun hne => ?_⟩
      · simp only [iH, aCK, hc, List.mem_append]
        refine (List.mem_append.1 hp).elim (fun h => .inr ?_) (fun h => .inl (qM h))
        cases ta with
        | true => exact aQE h
        | false => simp [aAC] at h
      · cases pu
        · simp [gM, hc] at hne
        · simp only [aEX, if_true] at hr
          cases ha : (c.args.toList.map (rC ta ρ) ++ caps).all SV.handed <;> simp only [ha, aA] at hr <;> try (simp at hr; done)
          split at hr
          · obtain ⟨q, _, rfl⟩ := Option.map_eq_some_iff.1 hr; rfl
          · simp at hr
  all_goals first
    | (simp at h; done)
    | exact fin (val h)
theorem aE8 (l : List (SV m)) (us : List (Tmp × (SV m))) (t : Nat) (d : (SV m)) (h : t ∉ us.map (·.1)) : (eO l us).getD t d = l.getD t d := by
  induction us generalizing l with
  | nil => rfl
  | cons u us ih =>
    simp only [List.map_cons, List.mem_cons, not_or] at h
    simp only [eO, List.foldl_cons]
    rw [show List.foldl (fun l (p : Tmp × (SV m)) => l.set p.1 p.2) (l.set u.1 u.2) us = eO (l.set u.1 u.2) us from rfl, ih _ h.2]
    simp [List.getD_eq_getElem?_getD, List.getElem?_set_ne (Ne.symm h.1)]
theorem aQ0 (l : List (SV m)) (us : List (Tmp × (SV m))) (t : Nat) (v : (SV m)) (h : t ∉ us.map (·.1)) : eO (l.set t v) us = (eO l us).set t v := by
  induction us generalizing l with
  | nil => rfl
  | cons u us ih =>
    simp only [List.map_cons, List.mem_cons, not_or] at h
    simp only [eO, List.foldl_cons]
    rw [List.set_comm _ _ h.1]
    exact ih _ h.2
theorem aP8 (l : List (SV m)) (us vs : List (Tmp × (SV m))) (h : ∀ p ∈ us, p.1 ∉ vs.map (·.1)) : eO (eO l us) vs = eO (eO l vs) us := by
  induction us generalizing l with
  | nil => rfl
  | cons u us ih =>
    have h1 := h u (by simp)
    have e1 : eO l (u :: us) = eO (l.set u.1 u.2) us := rfl
    have e2 : eO (eO l vs) (u :: us) = eO ((eO l vs).set u.1 u.2) us := rfl
    rw [e1, e2, ih _ fun p hp => h p (by simp [hp]), aQ0 _ _ _ _ h1]
theorem aEL {mv pu ta : Bool} {o : Oper} {s s' : (St m)} (h : ∀ t ∈ o.looksAt ops, s.tmps.getD t .any = s'.tmps.getD t .any) (hb : gM mv pu ta o ≠ 0 → s.boxes = s'.boxes) :
    mK P D nt mv pu ta ops o s = mK P D nt mv pu ta ops o s' := by
  have he : cV P D nt mv pu ta o s.eval s.boxes = cV P D nt mv pu ta o s'.eval s'.boxes := aQ8 (fun x hx => by
    cases x with
    | tmp t => exact h t (by simp only [Oper.looksAt, List.mem_append, List.mem_filterMap]; exact .inl ⟨.tmp t, by simpa using hx, rfl⟩)
    | _ => rfl) hb
  unfold mK
  rw [he]
  cases hg : o.guard with
  | none => rfl
  | some g =>
    obtain ⟨j, want⟩ := g
    simp only
    cases hj : (ops[j]?).bind (·.dst) with
    | none => rfl
    | some t =>
      have : s.tmps.getD t .any = s'.tmps.getD t .any := h t (by simp [Oper.looksAt, hg, hj])
      simp only [this]
theorem aIG {mv pu ta : Bool} {o : Oper} {s : (St m)} {e : (Eff m)} (h : mK P D nt mv pu ta ops o s = some e) :
    (∀ p ∈ e.tmps, p.1 ∈ iH mv o) ∧ (gM mv pu ta o ≠ 2 → e.boxes = none) := by
  unfold mK at h
  cases hg : o.guard with
  | none => simp only [hg] at h; exact aMY h
  | some g =>
    obtain ⟨j, want⟩ := g
    simp only [hg] at h
    cases hj : (ops[j]?).bind (·.dst) with
    | none => simp [hj] at h
    | some t =>
      have skip : (some ⟨qJ o.dst .skip, none⟩ : Option (Eff m)) = some e → (∀ p ∈ e.tmps, p.1 ∈ iH mv o) ∧ (gM mv pu ta o ≠ 2 → e.boxes = none) := by
        rintro h
        obtain rfl := Option.some.inj h
        exact ⟨fun p hp => by simp only [iH, List.mem_append]; exact .inl (qM hp), fun _ => rfl⟩
      simp only [hj, pQ] at h
      split at h
      · rename_i b _
        simp only [aB] at h
        split at h
        · exact aMY h
        · exact skip h
      · exact skip h
      · simp at h
theorem aK9 {bs : gU m} {b d : Nat} {c : Option (List (SV m))} (h : b ≠ d) : aW (bs.set d c) b = aW bs b := by
  unfold aW
  rw [List.getD_eq_getElem?_getD, List.getD_eq_getElem?_getD, List.getElem?_set_ne (Ne.symm h)]
theorem aPC {mv pu ta : Bool} {o : Oper} {s : (St m)} {e : (Eff m)} (hf : aOU o = true) (h : mK P D nt mv pu ta ops o s = some e) :
    e.boxes = none ∨ ∃ d c, aW s.boxes d = none ∧ e.boxes = some (s.boxes.set d (some c)) := by
  have eff : cV P D nt mv pu ta o s.eval s.boxes = some e → e.boxes = none ∨ ∃ d c, aW s.boxes d = none ∧ e.boxes = some (s.boxes.set d (some c)) := fun h => by
    obtain ⟨dst, op, type, pos, after, guard⟩ := o
    unfold aOU at hf
    cases op <;> simp only at hf <;> try (simp at hf; done)
    all_goals
      simp only [cV] at h
      cases dst with
      | none => simp at h
      | some d =>
        simp only at h
        split at h
        · rename_i hb
          refine .inr ⟨d, ?_⟩
          first
          | (cases hg : (decide (d < nt) && ((s.eval ‹Operand›).data || aD0 (s.eval ‹Operand›))) <;> simp only [hg, aA] at h <;> try (simp at h; done)
             obtain rfl := Option.some.inj h
             exact ⟨_, hb, rfl⟩)
          | (cases hg : decide (d < nt) <;> simp only [hg, aA] at h <;> try (simp at h; done)
             obtain ⟨z, _, rfl⟩ := Option.map_eq_some_iff.1 h
             exact ⟨_, hb, rfl⟩)
        · simp at h
  unfold mK at h
  cases hg : o.guard with
  | none => simp only [hg] at h; exact eff h
  | some g =>
    obtain ⟨j, want⟩ := g
    simp only [hg] at h
    cases hj : (ops[j]?).bind (·.dst) with
    | none => simp [hj] at h
    | some t =>
      simp only [hj, pQ] at h
      split at h
      · simp only [aB] at h
        split at h
        · exact eff h
        · obtain rfl := Option.some.inj h; exact .inl rfl
      · obtain rfl := Option.some.inj h; exact .inl rfl
      · simp at h
theorem aRt {mv pu ta : Bool} {o : Oper} {ρ : Operand → SV m} {bs : gU m} {e : (Eff m)} {d : Nat} {c : Option (List (SV m))} (hr : gM mv pu ta o = 1) (hd : aW bs d = none)
    (h : cV P D nt mv pu ta o ρ bs = some e) : cV P D nt mv pu ta o ρ (bs.set d c) = some e := by
  obtain ⟨dst, op, type, pos, after, guard⟩ := o
  cases op <;> simp only [gM] at hr <;> try (simp at hr; done)
  case load t x =>
    simp only [cV] at h ⊢
    cases hx : ρ x <;> simp only [hx] at h ⊢ <;> try (simp at h; done)
    · rename_i b p
      have hpu := (aPb h).1
      replace h := (aPb h).2
      have hne : b ≠ d := fun he => by subst he; rw [hd] at h; simp at h
      subst hpu
      have hm : mv = false := by cases mv <;> simp at hr ⊢
      subst hm
      simp only [aA]
      rw [aK9 hne]
      simpa using h
    · exact h
    · exact h
  case call cc =>
    exfalso
    revert hr
    split <;> (try split) <;> simp
theorem aSC {mv pu ta : Bool} {o : Oper} {s : (St m)} {e : (Eff m)} {d : Nat} {c : Option (List (SV m))} (hr : gM mv pu ta o = 1) (hd : aW s.boxes d = none)
    (h : mK P D nt mv pu ta ops o s = some e) : mK P D nt mv pu ta ops o { s with boxes := s.boxes.set d c } = some e := by
  have eff : cV P D nt mv pu ta o s.eval s.boxes = some e → cV P D nt mv pu ta o s.eval (s.boxes.set d c) = some e := aRt hr hd
  unfold mK at h ⊢
  cases hg : o.guard with
  | none => simp only [hg] at h ⊢; exact eff h
  | some g =>
    obtain ⟨j, want⟩ := g
    simp only [hg] at h ⊢
    cases hj : (ops[j]?).bind (·.dst) with
    | none => simp [hj] at h
    | some t =>
      simp only [hj, pQ] at h ⊢
      split at h
      · rename_i b hb
        simp only [aB] at h ⊢
        split at h
        · exact eff h
        · exact h
      · exact h
      · simp at h
theorem aR5 {i j : Nat} {oi oj : Oper} {s : (St m)} {ei ej : (Eff m)} (hap : aPc mv pu ta ops i j oi oj = true)
    (hi : mK P D nt (mv i) (pu i) (ta i) ops oi s = some ei) (hj : mK P D nt (mv j) (pu j) (ta j) ops oj (ei.app s) = some ej) :
    mK P D nt (mv j) (pu j) (ta j) ops oj s = some ej ∧ mK P D nt (mv i) (pu i) (ta i) ops oi (ej.app s) = some ei ∧ ej.app (ei.app s) = ei.app (ej.app s) := by
  simp only [aPc, Bool.and_eq_true, List.all_eq_true, Bool.not_eq_true', List.contains_eq_mem, decide_eq_false_iff_not, Bool.or_eq_true, beq_iff_eq] at hap
  obtain ⟨⟨h1, h2⟩, h3⟩ := hap
  obtain ⟨wi, bi⟩ := aIG hi
  obtain ⟨wj, bj⟩ := aIG hj
  have hbi : gM (mv j) (pu j) (ta j) oj ≠ 0 → ei.boxes = none := fun h => bi (by omega)
  have nin : ∀ t, t ∈ oj.looksAt ops → t ∉ ei.tmps.map (·.1) := fun t ht hm => by
    obtain ⟨p, hp, rfl⟩ := List.mem_map.1 hm
    exact (h1 p.1 (wi p hp)).1 ht
  have nin' : ∀ t, t ∈ oi.looksAt ops → t ∉ ej.tmps.map (·.1) := fun t ht hm => by
    obtain ⟨p, hp, rfl⟩ := List.mem_map.1 hm
    exact h2 p.1 (wj p hp) ht
  have first : mK P D nt (mv j) (pu j) (ta j) ops oj s = some ej := by
    rw [← hj]
    exact aEL (fun t ht => (aE8 _ _ _ _ (nin t ht)).symm) (fun h => by simp [Eff.app, hbi h])
  refine ⟨first, ?_, ?_⟩
  · rcases h3 with h3 | ⟨h31, h3⟩
    · have hbj : gM (mv i) (pu i) (ta i) oi ≠ 0 → ej.boxes = none := fun h => bj (by omega)
      rw [← hi]
      exact aEL (fun t ht => aE8 _ _ _ _ (nin' t ht)) (fun h => by simp [Eff.app, hbj h])
    · have grow : mK P D nt (mv i) (pu i) (ta i) ops oi { s with boxes := ej.boxes.getD s.boxes } = some ei := by
        rcases h3 with h3 | h3
        · rw [bj (by omega)]; exact hi
        · rcases aPC h3 first with hb | ⟨d, c, hd, hb⟩
          · rw [hb]; exact hi
          · rw [hb]; exact aSC h31 hd hi
      rw [← grow]
      exact aEL (fun t ht => aE8 _ _ _ _ (nin' t ht)) (fun h => by simp [Eff.app])
  · have hc : eO (eO s.tmps ei.tmps) ej.tmps = eO (eO s.tmps ej.tmps) ei.tmps := aP8 _ _ _ fun p hp hm => by
      obtain ⟨q, hq, e⟩ := List.mem_map.1 hm
      exact (h1 p.1 (wi p hp)).2 (e ▸ wj q hq)
    have hb : ei.boxes = none ∨ ej.boxes = none := by
      rcases Nat.eq_zero_or_pos (gM (mv j) (pu j) (ta j) oj) with h | h
      · exact .inr (bj (by omega))
      · exact .inl (hbi (by omega))
    rcases hb with hb | hb <;> simp [Eff.app, hc, hb]
def aSh (P : Program) (D : (bK m)) (nt : Nat) (mv pu ta : Nat → Bool) (ops : Array Oper) (Q : (St m) → Prop) : Nat → Array Bool → (St m) → Prop
  | 0, listed, s => Region.ready .any ops listed = [] ∧ Q s
  | fuel + 1, listed, s => (Region.ready .any ops listed = [] → Q s) ∧
    ∀ i ∈ Region.ready .any ops listed, ∃ o e, ops[i]? = some o ∧ mK P D nt (mv i) (pu i) (ta i) ops o s = some e ∧ aSh P D nt mv pu ta ops Q fuel (listed.setIfInBounds i true) (e.app s)
theorem aPm {listed : Array Bool} {x : Nat} (h : listed.getD x false = true) : listed.getD x true = true := by
  rcases Nat.lt_or_ge x listed.size with h' | h'
  · simp only [Array.getD, h', dite_true] at h ⊢; exact h
  · simp [Array.getD, Nat.not_lt.2 h']
def aQM (ops : Array Oper) (listed : Array Bool) : Prop :=
  ∀ (j : Nat) (o : Oper), ops[j]? = some o → listed.getD j true = true → ∀ e ∈ o.after, Region.binds .any e = true → listed.getD e.on false = true
theorem aQM.waits {listed : Array Bool} (h : aQM ops listed) : ∀ (n j k : Nat), listed.getD j true = true → Vs.waits ops n j k = true → listed.getD k false = true
  | 0, _, _, _, hw => by simp [Vs.waits] at hw
  | n + 1, j, k, hj, hw => by
    simp only [Vs.waits] at hw
    cases ho : ops[j]? with
    | none => simp [ho] at hw
    | some o =>
      simp only [ho, Array.any_eq_true, Bool.and_eq_true, Bool.or_eq_true, beq_iff_eq] at hw
      obtain ⟨i, hi, hb, he⟩ := hw
      have h1 := h j o ho hj _ (Array.getElem_mem hi) hb
      rcases he with he | he
      · rw [← he]; exact h1
      · exact h.waits n _ k (aPm h1) he
theorem aQM.put {listed : Array Bool} (h : aQM ops listed) {i : Nat} (hi : i ∈ Region.ready .any ops listed) : aQM ops (listed.setIfInBounds i true) := by
  obtain ⟨h0, o', ho', hall⟩ := mem_ready.1 hi
  have up : ∀ x : Nat, listed.getD x false = true → (listed.setIfInBounds i true).getD x false = true := fun x hx => by
    by_cases hxi : x = i
    · subst hxi
      rcases Nat.lt_or_ge x listed.size with h' | h'
      · simp [Array.getD, h']
      · simp [Array.getD, Nat.not_lt.2 h'] at hx
    · rwa [getD_set_ne false (Ne.symm hxi)]
  intro j o ho hj e he hb
  by_cases hji : j = i
  · subst hji
    rw [ho] at ho'
    obtain rfl := Option.some.inj ho'
    exact up _ (hall e he hb)
  · rw [getD_set_ne true (Ne.symm hji)] at hj
    exact up _ (h j o ho hj e he hb)
theorem aSt {Q : (St m) → Prop} {i : Nat} {oi : Oper} {ei : (Eff m)} (hi : ops[i]? = some oi) :
    ∀ (fuel : Nat) (listed : Array Bool) (s : (St m)), aQM ops listed →
      (∀ j oj, ops[j]? = some oj → j ≠ i → listed.getD j true = false → (∀ e ∈ oj.after, Region.binds .any e = true → e.on ≠ i) → waits ops 8 j i = false → aPc mv pu ta ops i j oi oj = true) →
      i ∈ Region.ready .any ops listed → mK P D nt (mv i) (pu i) (ta i) ops oi s = some ei →
      aSh P D nt mv pu ta ops Q fuel (listed.setIfInBounds i true) (ei.app s) → aSh P D nt mv pu ta ops Q (fuel + 1) listed s := by
  intro fuel
  induction fuel with
  | zero =>
    intro listed s _ _ hr hy H
    refine ⟨fun h => (by rw [h] at hr; cases hr), fun j hj => ?_⟩
    by_cases hji : j = i
    · subst hji; exact ⟨oi, ei, hi, hy, H⟩
    · have := ready_mono hj hji
      rw [H.1] at this
      cases this
  | succ fuel ih =>
    intro listed s hshut hfree hr hy H
    refine ⟨fun h => (by rw [h] at hr; cases hr), fun j hj => ?_⟩
    by_cases hji : j = i
    · subst hji; exact ⟨oi, ei, hi, hy, H⟩
    · obtain ⟨oj, ej, hoj, hsj, hrest⟩ := H.2 j (ready_mono hj hji)
      obtain ⟨hjun, oj', hoj', hall⟩ := mem_ready.1 hj
      obtain rfl : oj' = oj := by rw [hoj] at hoj'; exact (Option.some.inj hoj').symm
      have hnot : ∀ e ∈ oj'.after, Region.binds .any e = true → e.on ≠ i := fun e he hb heq => by
        have h1 := hall e he hb
        have h0 := (mem_ready.1 hr).1
        rw [heq] at h1
        rcases Nat.lt_or_ge i listed.size with h' | h'
        · simp [h'] at h0 h1; rw [h0] at h1; cases h1
        · simp [Array.getElem?_eq_none h'] at h1
      have hnw : waits ops 8 j i = false := by
        cases hw : waits ops 8 j i with
        | false => rfl
        | true =>
          have h0 := (mem_ready.1 hr).1
          simp only [waits, hoj, Array.any_eq_true, Bool.and_eq_true, Bool.or_eq_true, beq_iff_eq] at hw
          obtain ⟨n, hn, hb, he⟩ := hw
          have h1 := hall _ (Array.getElem_mem hn) hb
          rcases he with he | he
          · exact absurd he (hnot _ (Array.getElem_mem hn) hb)
          · have h2 := hshut.waits 7 oj'.after[n].on i (aPm h1) (by simpa only [waits, Bool.and_eq_true, Bool.or_eq_true, beq_iff_eq] using he)
            rw [aPm h2] at h0
            cases h0
      obtain ⟨c1, c2, c3⟩ := aR5 (hfree j oj' hoj hji hjun hnot hnw) hy hsj
      refine ⟨oj', ej, hoj, c1, ih (listed.setIfInBounds j true) (ej.app s) (hshut.put hj) ?_ (ready_mono hr (Ne.symm hji)) c2 ?_⟩
      · intro k ok hk hki hun hno
        refine hfree k ok hk hki ?_ hno
        by_cases hjk : j = k
        · subst hjk; exact hjun
        · rw [getD_set_ne true hjk] at hun; exact hun
      · rw [Array.setIfInBounds_comm _ _ hji, ← c3]
        exact hrest
theorem aRK : ∀ (l : List Oper) (k : Nat) (listed : Array Bool) (s s' : (St m)), aQM ops listed → (∀ j, l[j]? = ops[k + j]?) →
    aM5 mv pu ta ops l.length k listed = true → kY P D nt mv pu ta ops l k s some = some s' → aSh P D nt mv pu ta ops (· = s') l.length listed s
  | [], _, _, s, s', _, _, hB, h => by
    simp only [kY, Option.some.injEq] at h
    exact ⟨by simpa [aM5] using hB, h⟩
  | o :: l, k, listed, s, s', hsh, hl, hB, h => by
    have h0 : ops[k]? = some o := by simpa using (hl 0).symm
    simp only [List.length_cons, aM5, Bool.and_eq_true] at hB
    obtain ⟨⟨hr, hf⟩, hB'⟩ := hB
    simp only [kY, aAa] at h
    obtain ⟨e, he, hrest⟩ := Option.bind_eq_some_iff.1 h
    refine aSt h0 l.length listed s hsh ?_ (by simpa using hr) he (aRK l (k + 1) _ _ _ (hsh.put (by simpa using hr)) (fun j => by have := hl (j + 1); simpa [Nat.add_assoc, Nat.add_comm 1 j] using this) hB' hrest)
    intro j oj hoj hjk hun hno hnw
    have hj : j < ops.size := (Array.getElem?_eq_some_iff.1 hoj).1
    have := List.all_eq_true.1 hf j (List.mem_range.2 hj)
    simp only [Bool.or_eq_true, beq_iff_eq, hjk, hun, Bool.false_eq_true, false_or, h0, hoj, Array.any_eq_true, Bool.and_eq_true, hnw, or_false] at this
    rcases this with ⟨n, hn, hb, hon⟩ | h
    · exact absurd hon (hno _ (Array.getElem_mem hn) hb)
    · exact h
theorem aQG {s s' : (St m)} (hB : aAf mv pu ta ops = true) (h : kY P D nt mv pu ta ops ops.toList 0 s some = some s') :
    aSh P D nt mv pu ta ops (· = s') ops.size (Array.replicate ops.size false) s := by
  have := aRK (P := P) (D := D) (nt := nt) (mv := mv) (pu := pu) ops.toList 0 (Array.replicate ops.size false) s s' (fun j o ho hj => by
    have hlt := (Array.getElem?_eq_some_iff.1 ho).1
    simp [Array.getD, hlt] at hj) (by simp) (by simpa [aAf] using hB) h
  simpa using this
end
end Go.Vs
end
section
namespace Go.Vs
variable {m : Bool}
structure Env where
  n : Nat
  Z : Nat → Bool
  lt : ∀ g, Z g = true → g < n
  T : Nat → Nat → Bool := fun _ _ => false
  K : List ((Nat × Nat) × Value) := []
  B : List (Nat × Nat) := []
variable {N : Env}
def yT : Value → Bool | .bool _ | .int _ _ | .string _ => true | _ => false
def aC.soft : (aC m) → Bool | .unk | .sl _ _ => true | _ => false
abbrev Fr := Nat → Nat
inductive Loc where
  | tmp (t : Nat) | box (b j : Nat) | blk (b : Nat)
  deriving DecidableEq
abbrev Own := Nat → Option Loc
def BSz (w : World) (g n : Nat) : Prop := ∃ cur e z, w.heap[g]? = some (Obj.cells cur e z) ∧ cur.size = n
def nG (w : World) (g : Nat) : Prop := ∃ cur e, w.heap[g]? = some (Obj.cells cur e (0, 0))
def Fl.Holds {m : Bool} (c : Fl m) (N : Env) (w : World) (g o : Nat) : Prop := match m, c with
  | true, qA.new => N.n ≤ g ∧ o = 0 ∧ nG w g
  | true, qA.tag k f => N.T k g = true ∧ (f = true → o = 0 ∧ nG w g)
  | _, _ => True
theorem Fl.Holds.to {c : Fl m} {w w' : World} {g o : Nat} (h : c.Holds N w g o) (ht : nG w g → nG w' g) : c.Holds N w' g o := by
  cases m with
  | false => cases c; trivial
  | true => cases c <;> first | exact ⟨h.1, h.2.1, ht h.2.2⟩ | exact ⟨h.1, fun f => ⟨(h.2 f).1, ht (h.2 f).2⟩⟩ | trivial
theorem Fl.Holds.kept {w : World} {g o : Nat} : (Fl.kept m).Holds N w g o := by cases m <;> trivial
theorem Fl.Holds.mk_new {w : World} {g : Nat} (h : N.n ≤ g) (ht : nG w g) : (Fl.new m).Holds N w g 0 := by
  cases m
  · trivial
  · exact ⟨h, rfl, ht⟩
theorem Fl.Holds.later {c : Fl m} {w : World} {g o z : Nat} {lo : Option Nat} (h : c.Holds N w g o) : (c.later lo).Holds N w g (o + lo.getD 0 * z) := by
  cases lo with
  | none => simpa [Fl.later] using h
  | some k => cases m with
    | false => trivial
    | true => cases c <;> first | exact ⟨h.1, fun f => by cases f⟩ | trivial
def Fl.At {m : Bool} (c : Fl m) (N : Env) (g : Nat) : Prop := match m, c with
  | true, qA.soft => N.Z g = true
  | true, qA.tag k _ => N.T k g = true
  | true, qA.new => N.n ≤ g
  | _, _ => True
theorem Fl.At.of {c : Fl m} {w : World} {g o : Nat} (h : c.Holds N w g o) (hs : c.isSoft = true → N.Z g = true) : c.At N g := by
  cases m with
  | false => trivial
  | true => cases c <;> first | exact h.1 | exact hs rfl | trivial
theorem Fl.At.z {c : Fl m} {g : Nat} (h : c.At N g) (hs : c.isSoft = true) : N.Z g = true := by
  cases m with
  | false => cases c; simp [Fl.isSoft] at hs
  | true => cases c <;> first | exact h | simp [Fl.isSoft] at hs
inductive eB (w : World) (F : Fr) (N : Env) : (aC m) → Value → Prop
  | bool (b : Bool) : eB w F N (.bool b) (.bool b)
  | int (k : IntKind) (n : Int) : eB w F N (.int k n) (.int k n)
  | str (s : ByteArray) : eB w F N (.str s) (.string s)
  | unk (v : Value) (h : yT v = true) : eB w F N .unk v
  | nl (e : Option TypeId) : eB w F N (.nl e) (.slice none 0 0)
  | sl (c : Fl m) (es : List (List (aC m))) (A : Option Addr) (cap z : Nat) (vals : List Value) (hc : es.length ≤ cap) (hz : ∀ e ∈ es, e.length = z) (hv : vals.length = es.length * z)
      (hcell : 0 < es.length → ∃ g o, A = some ⟨g, o, none⟩ ∧ (0 < vals.length ∧ c.Holds N w g o) ∧ o + vals.length ≤ F g ∧ ((c.isSoft = true → N.Z g = true) ∧ (N.Z g = true → ∀ l ∈ es.flatten, l.soft = true)) ∧ ∀ (j : Nat) (v : Value), vals[j]? = some v → w.cell? ⟨g, o + j, none⟩ = some v)
      (hrep : ∀ (j : Nat) (l : (aC m)) (v : Value), es.flatten[j]? = some l → vals[j]? = some v → eB w F N l v) : eB w F N (.sl c es) (.slice A es.length cap)
structure eN (N : Env) (w : World) (F : Fr) (w' : World) (F' : Fr) : Prop where
  hard : ∀ g j, j < F g → N.Z g = false → w'.cell? ⟨g, j, none⟩ = w.cell? ⟨g, j, none⟩
  soft : ∀ g j v, j < F g → w.cell? ⟨g, j, none⟩ = some v → ∃ v', w'.cell? ⟨g, j, none⟩ = some v' ∧ (v' = v ∨ (yT v = true ∧ yT v' = true))
  le : ∀ g, F g ≤ F' g
  fz : ∀ g, nG w g → nG w' g
  sz : ∀ g n, BSz w g n → BSz w' g n
theorem eN.mk' {w : World} {F : Fr} {w' : World} {F' : Fr} (h : ∀ g j, j < F g → w'.cell? ⟨g, j, none⟩ = w.cell? ⟨g, j, none⟩) (le : ∀ g, F g ≤ F' g) (fz : ∀ g, nG w g → nG w' g) (sz : ∀ g n, BSz w g n → BSz w' g n) : eN N w F w' F' :=
  ⟨fun g j hj _ => h g j hj, fun g j v hj hv => ⟨v, (h g j hj).trans hv, .inl rfl⟩, le, fz, sz⟩
theorem nG.but {w w' : World} (g : Nat) (h : ∀ k : Nat, k < w.heap.size → k ≠ g → w'.heap[k]? = w.heap[k]?) (hg : g < w.heap.size → nG w' g) : ∀ k, nG w k → nG w' k := fun k hk => by
  obtain ⟨cur, e, hc⟩ := hk
  have hks : k < w.heap.size := (Array.getElem?_eq_some_iff.1 hc).1
  by_cases hkg : k = g
  · subst hkg; exact hg hks
  · exact ⟨cur, e, by rw [h k hks hkg]; exact hc⟩
theorem BSz.but {w w' : World} (g : Nat) (h : ∀ k : Nat, k < w.heap.size → k ≠ g → w'.heap[k]? = w.heap[k]?) (hg : ∀ n, BSz w g n → BSz w' g n) : ∀ k n, BSz w k n → BSz w' k n := fun k n hk => by
  by_cases hkg : k = g
  · subst hkg; exact hg n hk
  · obtain ⟨cur, e, z, hc, hn⟩ := hk
    exact ⟨cur, e, z, by rw [h k (Array.getElem?_eq_some_iff.1 hc).1 hkg]; exact hc, hn⟩
theorem eN.refl (w : World) (F : Fr) : eN N w F w F := .mk' (fun _ _ _ => rfl) (fun _ => Nat.le_refl _) (fun _ h => h) fun _ _ h => h
theorem eN.trans {w w1 w2 : World} {F F1 F2 : Fr} (h : eN N w F w1 F1) (k : eN N w1 F1 w2 F2) : eN N w F w2 F2 :=
  ⟨fun g j hj hz => (k.hard g j (Nat.lt_of_lt_of_le hj (h.le g)) hz).trans (h.hard g j hj hz), fun g j v hj hv => by
    obtain ⟨v1, h1, h2⟩ := h.soft g j v hj hv
    obtain ⟨v2, k1, k2⟩ := k.soft g j v1 (Nat.lt_of_lt_of_le hj (h.le g)) h1
    refine ⟨v2, k1, ?_⟩
    rcases h2 with rfl | ⟨a, b⟩ <;> rcases k2 with rfl | ⟨c, d⟩
    · exact .inl rfl
    · exact .inr ⟨c, d⟩
    · exact .inr ⟨a, b⟩
    · exact .inr ⟨a, d⟩, fun g => Nat.le_trans (h.le g) (k.le g), fun g hg => k.fz g (h.fz g hg), fun g n hg => k.sz g n (h.sz g n hg)⟩
theorem eB.not_plain {w : World} {F : Fr} {c : Fl m} {es : List (List (aC m))} {v : Value} (h : eB w F N (.sl c es) v) : yT v = false := by cases h; rfl
theorem aOi {w w' : World} {F F' : Fr} (k : eN N w F w' F') {ls : List (aC m)} {vals : List Value} {g o : Nat} (hl : vals.length = ls.length) (hle : o + vals.length ≤ F g) (hs : N.Z g = true → ∀ l ∈ ls, l.soft = true)
    (hc : ∀ (j : Nat) (v : Value), vals[j]? = some v → w.cell? ⟨g, o + j, none⟩ = some v) (hr : ∀ (j : Nat) (l : (aC m)) (v : Value), ls[j]? = some l → vals[j]? = some v → eB w F N l v ∧ eB w' F' N l v) :
    ∃ vals' : List Value, vals'.length = vals.length ∧ (∀ (j : Nat) (v : Value), vals'[j]? = some v → w'.cell? ⟨g, o + j, none⟩ = some v) ∧ (∀ (j : Nat) (l : (aC m)) (v : Value), ls[j]? = some l → vals'[j]? = some v → eB w' F' N l v) := by
  cases hZ : N.Z g with
  | false => exact ⟨vals, rfl, fun j v hj => by
      have hj' := (List.getElem?_eq_some_iff.1 hj).1
      rw [k.hard g (o + j) (by omega) hZ]
      exact hc j v hj, fun j l v a b => (hr j l v a b).2⟩
  | true =>
    have key : ∀ (j : Nat) (v : Value), vals[j]? = some v → ∃ v', w'.cell? ⟨g, o + j, none⟩ = some v' ∧ (v' = v ∨ (yT v = true ∧ yT v' = true)) := fun j v hj => by
      have hj' := (List.getElem?_eq_some_iff.1 hj).1
      exact k.soft g (o + j) v (by omega) (hc j v hj)
    refine ⟨(List.range vals.length).map fun j => (w'.cell? ⟨g, o + j, none⟩).getD undef, by simp, fun j v hj => ?_, fun j l v hl' hj => ?_⟩
    · have hj' : j < vals.length := by have := (List.getElem?_eq_some_iff.1 hj).1; simpa using this
      obtain ⟨v', h1, _⟩ := key j _ (List.getElem?_eq_getElem hj')
      simp only [List.getElem?_map, List.getElem?_range hj', Option.map_some, h1, Option.getD_some, Option.some.injEq] at hj
      rw [h1, hj]
    · have hj' : j < vals.length := by have := (List.getElem?_eq_some_iff.1 hj).1; simpa using this
      obtain ⟨v', h1, h2⟩ := key j _ (List.getElem?_eq_getElem hj')
      simp only [List.getElem?_map, List.getElem?_range hj', Option.map_some, h1, Option.getD_some, Option.some.injEq] at hj
      subst hj
      obtain ⟨h00, h0⟩ := hr j l _ hl' (List.getElem?_eq_getElem hj')
      rcases h2 with h2 | ⟨h2, h3⟩
      · rw [h2]; exact h0
      · have hso := hs hZ l (List.mem_of_getElem? hl')
        cases l with
        | unk => exact .unk _ h3
        | sl c es => rw [h00.not_plain] at h2; simp at h2
        | _ => simp [aC.soft] at hso
theorem eB.keeps {w w' : World} {F F' : Fr} (k : eN N w F w' F') {l : (aC m)} {v : Value} (h : eB w F N l v) : eB w' F' N l v := by
  induction h with
  | bool b => exact .bool b
  | int k n => exact .int k n
  | str s => exact .str s
  | unk v h => exact .unk v h
  | nl e => exact .nl e
  | sl c es A cap z vals hc hz hv hcell hr ih =>
    by_cases hpos : 0 < es.length
    · obtain ⟨g, o, e, hn, hle, hso, hcells⟩ := hcell hpos
      have hfl : vals.length = es.flatten.length := by rw [hv, List.length_flatten, show es.map List.length = List.replicate es.length z from List.eq_replicate_iff.2 ⟨by simp, by simpa using hz⟩, List.sum_replicate_nat]
      obtain ⟨vals', h1, h2, h3⟩ := aOi k hfl hle hso.2 hcells fun j l v a b => ⟨hr j l v a b, ih j l v a b⟩
      exact .sl c es A cap z vals' hc hz (h1.trans hv) (fun _ => ⟨g, o, e, ⟨by rw [h1]; exact hn.1, hn.2.to (k.fz g)⟩, by rw [h1]; exact Nat.le_trans hle (k.le g), hso, h2⟩) h3
    · exact .sl c es A cap z vals hc hz hv (fun h => absurd h hpos) ih
theorem eB.one {w : World} {F : Fr} {l : (aC m)} {v : Value} (h : eB w F N l v) : v.oneCell' = true := by
  cases h <;> try rfl
  rename_i h; cases v <;> first | rfl | simp [yT] at h
theorem eB.cells {w : World} {F : Fr} {l : (aC m)} {v : Value} (h : eB w F N l v) : v.cells = #[v] := by
  cases h <;> try rfl
  rename_i h; cases v <;> first | rfl | simp [yT] at h
def cU (w : World) (F : Fr) (N : Env) (ls : List (aC m)) (vs : List Value) : Prop := vs.length = ls.length ∧ ∀ (j : Nat) (l : (aC m)) (v : Value), ls[j]? = some l → vs[j]? = some v → eB w F N l v
theorem cU.keeps {w w' : World} {F F' : Fr} (k : eN N w F w' F') {ls : List (aC m)} {vs : List Value} (h : cU w F N ls vs) : cU w' F' N ls vs :=
  ⟨h.1, fun j l v a b => (h.2 j l v a b).keeps k⟩
theorem cU.nil (w : World) (F : Fr) (N : Env) : cU w F N ([] : List (aC m)) [] := ⟨rfl, fun j l v h => by simp at h⟩
theorem cU.cons {w : World} {F : Fr} {l : (aC m)} {v : Value} {ls : List (aC m)} {vs : List Value} (h : eB w F N l v) (hs : cU w F N ls vs) : cU w F N (l :: ls) (v :: vs) := by
  refine ⟨by simp [hs.1], fun j l' v' a b => ?_⟩
  cases j with
  | zero => simp at a b; subst a b; exact h
  | succ j => simp at a b; exact hs.2 j l' v' a b
theorem cU.uncons {w : World} {F : Fr} {l : (aC m)} {ls : List (aC m)} {vs : List Value} (h : cU w F N (l :: ls) vs) : ∃ v r, vs = v :: r ∧ eB w F N l v ∧ cU w F N ls r := by
  cases vs with
  | nil => simp [cU] at h
  | cons v r => exact ⟨v, r, rfl, h.2 0 l v rfl rfl, by simpa using h.1, fun j l' v' a b => h.2 (j + 1) l' v' (by simpa using a) (by simpa using b)⟩
theorem cU.append {w : World} {F : Fr} {a b : List (aC m)} {x y : List Value} (h : cU w F N a x) (k : cU w F N b y) : cU w F N (a ++ b) (x ++ y) := by
  induction a generalizing x with
  | nil => obtain rfl : x = [] := List.eq_nil_of_length_eq_zero h.1; simpa using k
  | cons l a ih =>
    obtain ⟨v, r, rfl, h1, h2⟩ := h.uncons
    exact cU.cons h1 (ih h2)
theorem cU.drop {w : World} {F : Fr} {a : List (aC m)} {x : List Value} (h : cU w F N a x) (n : Nat) : cU w F N (a.drop n) (x.drop n) :=
  ⟨by simp [h.1], fun j l v p q => h.2 (n + j) l v (by simpa using p) (by simpa using q)⟩
theorem cU.take {w : World} {F : Fr} {a : List (aC m)} {x : List Value} (h : cU w F N a x) (n : Nat) : cU w F N (a.take n) (x.take n) := by
  refine ⟨by simp [h.1], fun j l v p q => ?_⟩
  rw [List.getElem?_take] at p q
  split at p
  · rename_i hj; simp only [hj, if_true] at q; exact h.2 j l v p q
  · simp at p
theorem cU.get {w : World} {F : Fr} {a : List (aC m)} {x : List Value} (h : cU w F N a x) {j : Nat} {l : (aC m)} (hl : a[j]? = some l) : ∃ v, x[j]? = some v ∧ eB w F N l v := by
  have hj : j < x.length := by rw [h.1]; exact (List.getElem?_eq_some_iff.1 hl).1
  exact ⟨x[j], List.getElem?_eq_getElem hj, h.2 j l _ hl (List.getElem?_eq_getElem hj)⟩
theorem cU.one {w : World} {F : Fr} {a : List (aC m)} {x : List Value} (h : cU w F N a x) : ∀ v ∈ x, v.oneCell' = true := by
  intro v hv
  obtain ⟨j, hj, rfl⟩ := List.getElem_of_mem hv
  have hj' : j < a.length := by rw [← h.1]; exact hj
  exact (h.2 j a[j] _ (List.getElem?_eq_getElem hj') (List.getElem?_eq_getElem hj)).one
theorem aFT {w : World} {F : Fr} {c : Fl m} {es : List (List (aC m))} {v : Value} (h : eB w F N (.sl c es) v) :
    ∃ A cap z vals, v = .slice A es.length cap ∧ es.length ≤ cap ∧ (∀ e ∈ es, e.length = z) ∧ vals.length = es.length * z ∧
      (0 < es.length → ∃ g o, A = some ⟨g, o, none⟩ ∧ (0 < vals.length ∧ c.Holds N w g o) ∧ o + vals.length ≤ F g ∧ ((c.isSoft = true → N.Z g = true) ∧ (N.Z g = true → ∀ l ∈ es.flatten, l.soft = true)) ∧ ∀ (j : Nat) (v : Value), vals[j]? = some v → w.cell? ⟨g, o + j, none⟩ = some v) ∧ cU w F N es.flatten vals := by
  cases h with
  | sl c es A cap z vals hc hz hv hcell hrep =>
    exact ⟨A, cap, z, vals, rfl, hc, hz, hv, hcell, by rw [hv, List.length_flatten, show es.map List.length = List.replicate es.length z from List.eq_replicate_iff.2 ⟨by simp, by simpa using hz⟩, List.sum_replicate_nat], hrep⟩
theorem eI {es : List (List (aC m))} {z : Nat} (hz : ∀ e ∈ es, e.length = z) : es.flatten.length = es.length * z := by
  rw [List.length_flatten, show es.map List.length = List.replicate es.length z from List.eq_replicate_iff.2 ⟨by simp, by simpa using hz⟩, List.sum_replicate_nat]
theorem nC {w : World} {F : Fr} {c : Fl m} {es : List (List (aC m))} {A : Option Addr} {cap z : Nat} {vals : List Value} (hc : es.length ≤ cap) (hz : ∀ e ∈ es, e.length = z)
    (hcell : 0 < es.length → ∃ g o, A = some ⟨g, o, none⟩ ∧ (0 < vals.length ∧ c.Holds N w g o) ∧ o + vals.length ≤ F g ∧ ((c.isSoft = true → N.Z g = true) ∧ (N.Z g = true → ∀ l ∈ es.flatten, l.soft = true)) ∧ ∀ (j : Nat) (v : Value), vals[j]? = some v → w.cell? ⟨g, o + j, none⟩ = some v) (hr : cU w F N es.flatten vals) : eB w F N (.sl c es) (.slice A es.length cap) :=
  .sl c es A cap z vals hc hz (by rw [hr.1, eI hz]) hcell hr.2
def dF (w : World) (F : Fr) (N : Env) (bm : Nat → Nat) (al : Nat → Bool) : (SV m) → Value → Prop
  | .any, _ => True
  | .skip, v => v = undef
  | .leaf l, v => eB w F N l v
  | .agg cs, v => ∃ vs, v = .agg vs ∧ cU w F N cs vs.toList
  | .ptr b o, v => v = .pointer (some ⟨bm b, o, none⟩) ∧ al b = true
  | .bsl b z lo n, v => ((n = 0 ∧ ∃ A cap, v = .slice A 0 cap) ∨ ∃ cap, v = .slice (some ⟨bm b, lo * z, none⟩) n cap ∧ n ≤ cap) ∧ al b = true
  | .eptr c e o, v => ∃ g p vals, v = .pointer (some ⟨g, p + o, none⟩) ∧ p + e.length ≤ F g ∧ (c.At N g ∧ (N.Z g = true → ∀ l ∈ e, l.soft = true)) ∧ cU w F N e vals ∧ ∀ (j : Nat) (u : Value), vals[j]? = some u → w.cell? ⟨g, p + j, none⟩ = some u
  | .kfn f cs, v => ∃ g o vs, v = .pointer (some ⟨g, o, none⟩) ∧ (o < F g ∧ N.Z g = false) ∧ w.cell? ⟨g, o, none⟩ = some (.func (.func f) #[] vs) ∧ vs.size = cs.length ∧
      ∀ (j : Nat) (c : Option (Nat × Nat)) (u : Value), cs[j]? = some c → vs[j]? = some u → match c with | none => u = v | some p => u = .pointer (some ⟨bm p.1, p.2, none⟩) ∧ al p.1 = true
  | .nilptr, v => v = .pointer none
  | .nilface, v => v = .nilIface
  | _, _ => False
def lO (P : Program) (w : World) (F : Fr) (N : Env) (Ow : Own) (loc : Loc) (q : Bool) (eo : Option TypeId) (es : List (List (aC m))) (v : Value) : Prop :=
  (v = .slice none 0 0 ∧ es = []) ∨
  ∃ g cap cur e i vals, N.n ≤ g ∧ eo = some e ∧ P.info? e = some i ∧ 0 < i.size ∧ v = .slice (some ⟨g, 0, none⟩) es.length cap ∧ w.heap[g]? = some (.cells cur e (0, 0)) ∧ es.length ≤ cap ∧ cap ≤ maxLen ∧ cur.size = cap * i.size ∧
    (∀ x ∈ es, x.length = i.size) ∧ Ow g = some loc ∧ F g = (if q = true then 0 else es.length * i.size) ∧ cur.toList.take (es.length * i.size) = vals ∧ cU w F N es.flatten vals
def aR (P : Program) (w : World) (F : Fr) (N : Env) (Ow : Own) (bm : Nat → Nat) (al : Nat → Bool) (loc : Loc) : (SV m) → Value → Prop
  | .own eo es, v => lO P w F N Ow loc false eo es v
  | .raw eo es, v => lO P w F N Ow loc true eo es v
  | .fn f caps, v => ∃ vs, v = .func (.func f) #[] vs ∧ vs.size = caps.length ∧ ∀ (j : Nat) (c : (SV m)) (u : Value), caps[j]? = some c → vs[j]? = some u → dF w F N bm al c u
  | .tup cs, v => ∃ vs, v = .tuple vs ∧ vs.size = cs.length ∧ ∀ (j : Nat) (c : (SV m)) (u : Value), cs[j]? = some c → vs[j]? = some u → dF w F N bm al c u
  | x, v => dF w F N bm al x v
theorem dF.keeps {w w' : World} {F F' : Fr} {bm : Nat → Nat} {al : Nat → Bool} (k : eN N w F w' F') {x : (SV m)} {v : Value} (h : dF w F N bm al x v) : dF w' F' N bm al x v := by
  cases x <;> simp only [dF] at h ⊢ <;> try exact h
  · exact h.keeps k
  · obtain ⟨vs, e, hr⟩ := h; exact ⟨vs, e, hr.keeps k⟩
  · obtain ⟨g, p, vals, e, hle, hso, hr, hc⟩ := h
    obtain ⟨vals', h1, h2, h3⟩ := aOi k hr.1 (by rw [hr.1]; exact hle) hso.2 hc fun j l v a b => ⟨hr.2 j l v a b, (hr.keeps k).2 j l v a b⟩
    exact ⟨g, p, vals', e, Nat.le_trans hle (k.le g), hso, ⟨h1.trans hr.1, h3⟩, h2⟩
  · obtain ⟨g, o, vs, e, ho, hc, hs, hr⟩ := h
    exact ⟨g, o, vs, e, ⟨Nat.lt_of_lt_of_le ho.1 (k.le g), ho.2⟩, by rw [k.hard g o ho.1 ho.2]; exact hc, hs, hr⟩
theorem dF.boxes {w : World} {F : Fr} {bm bm' : Nat → Nat} {al al' : Nat → Bool} {x : (SV m)} {v : Value} (h : dF w F N bm al x v) (hb : ∀ b, al b = true → bm' b = bm b ∧ al' b = true) : dF w F N bm' al' x v := by
  cases x <;> simp only [dF] at h ⊢ <;> try exact h
  · obtain ⟨e, ha⟩ := h
    obtain ⟨h1, h2⟩ := hb _ ha
    exact ⟨by rw [h1]; exact e, h2⟩
  · obtain ⟨h, ha⟩ := h
    obtain ⟨h1, h2⟩ := hb _ ha
    exact ⟨h.imp id fun ⟨cap, e, hc⟩ => ⟨cap, by rw [h1]; exact e, hc⟩, h2⟩
  · obtain ⟨g, o, vs, e, ho, hc, hs, hr⟩ := h
    refine ⟨g, o, vs, e, ho, hc, hs, fun j c u a b => ?_⟩
    have := hr j c u a b
    cases c with
    | none => exact this
    | some p =>
      obtain ⟨e', ha⟩ := this
      obtain ⟨h1, h2⟩ := hb _ ha
      exact ⟨by rw [h1]; exact e', h2⟩
theorem lO.keeps {P : Program} {w w' : World} {F F' : Fr} {Ow Ow' : Own} {loc loc' : Loc} {q : Bool} {eo : Option TypeId} {es : List (List (aC m))} {v : Value} (k : eN N w F w' F') (h : lO P w F N Ow loc q eo es v)
    (hb : ∀ g, Ow g = some loc → w'.heap[g]? = w.heap[g]? ∧ F' g = F g ∧ Ow' g = some loc') : lO P w' F' N Ow' loc' q eo es v := by
  rcases h with h | ⟨g, cap, cur, e, i, vals, hn, he, hi, hz, hv, hg, hc, hm, hs, hx, ho, hf, ht, hr⟩
  · exact .inl h
  · obtain ⟨b1, b2, b3⟩ := hb g ho
    exact .inr ⟨g, cap, cur, e, i, vals, hn, he, hi, hz, hv, b1.trans hg, hc, hm, hs, hx, b3, b2.trans hf, ht, hr.keeps k⟩
theorem aR.keeps {P : Program} {w w' : World} {F F' : Fr} {Ow Ow' : Own} {bm bm' : Nat → Nat} {al al' : Nat → Bool} {loc loc' : Loc} {x : (SV m)} {v : Value} (k : eN N w F w' F') (h : aR P w F N Ow bm al loc x v)
    (hp : ∀ b, al b = true → bm' b = bm b ∧ al' b = true) (hb : ∀ g, Ow g = some loc → w'.heap[g]? = w.heap[g]? ∧ F' g = F g ∧ Ow' g = some loc') : aR P w' F' N Ow' bm' al' loc' x v := by
  cases x
  case own eo es => exact lO.keeps k h hb
  case raw eo es => exact lO.keeps k h hb
  case fn f caps => obtain ⟨vs, e, hs, hc⟩ := h; exact ⟨vs, e, hs, fun j c u a b => ((hc j c u a b).keeps k).boxes hp⟩
  case tup cs => obtain ⟨vs, e, hs, hc⟩ := h; exact ⟨vs, e, hs, fun j c u a b => ((hc j c u a b).keeps k).boxes hp⟩
  all_goals (simp only [aR] at h ⊢; exact (dF.keeps k h).boxes hp)
theorem lO.leaf {P : Program} {w : World} {F : Fr} {Ow : Own} {loc : Loc} {eo : Option TypeId} {es : List (List (aC m))} {v : Value} (h : lO P w F N Ow loc false eo es v) : eB w F N (.sl (Fl.new m) es) v := by
  rcases h with ⟨rfl, rfl⟩ | ⟨g, cap, cur, e, i, vals, hn, he, hi, hz, rfl, hg, hc, hm, hs, hx, ho, hf, ht, hr⟩
  · exact nC (es := []) (z := 0) (vals := []) (Nat.le_refl _) (by simp) (fun h => by simp at h) (cU.nil _ _ _)
  · simp only [Bool.false_eq_true, if_false] at hf
    refine nC hc hx (fun hpos => ⟨g, 0, rfl, ⟨by rw [hr.1, eI hx]; exact Nat.mul_pos (by assumption) hz, Fl.Holds.mk_new hn ⟨cur, e, hg⟩⟩, ?_, ⟨fun h => by rw [Fl.soft_new] at h; simp at h, fun hz => absurd (N.lt g hz) (Nat.not_lt.2 hn)⟩, fun j v hj => ?_⟩) hr
    · rw [hr.1, eI hx, hf]; omega
    · subst ht
      rw [List.getElem?_take] at hj
      split at hj
      · simp only [World.cell?, hg]; simpa using hj
      · simp at hj
theorem aR.drop {P : Program} {w : World} {F : Fr} {Ow Ow' : Own} {bm : Nat → Nat} {al : Nat → Bool} {loc loc' : Loc} {x : (SV m)} {v : Value} (h : aR P w F N Ow bm al loc x v) : aR P w F N Ow' bm al loc' x.drop v := by
  cases x
  case own eo es => exact lO.leaf h
  case raw eo es => simp only [SV.drop, aR, dF]
  all_goals exact h
def aR2 (w : World) (F : Fr) (N : Env) (fs : List (List (aC m))) (u : Value) : Prop := ∃ A cap z vals, u = .slice A fs.length cap ∧ fs.length ≤ cap ∧ (∀ e ∈ fs, e.length = z) ∧ vals.length = fs.length * z ∧
  (0 < fs.length → ∃ g o, A = some ⟨g, o, none⟩ ∧ ∀ (j : Nat) (v : Value), vals[j]? = some v → w.cell? ⟨g, o + j, none⟩ = some v) ∧ cU w F N fs.flatten vals
def aVi (w : World) (F : Fr) (N : Env) : aC m → Value → Prop
  | .sl _ es, u => aR2 w F N es u
  | l, u => eB w F N l u
theorem eB.see {w : World} {F : Fr} {l : aC m} {u : Value} (h : eB w F N l u) : aVi w F N l u := by
  cases l with
  | sl c es =>
    obtain ⟨A, cap, z, vals, h1, h2, h3, h4, h5, h6⟩ := aFT h
    exact ⟨A, cap, z, vals, h1, h2, h3, h4, fun hp => let ⟨g, o, a, _, _, _, c⟩ := h5 hp; ⟨g, o, a, c⟩, h6⟩
  | _ => exact h
theorem lO.row {P : Program} {w : World} {F : Fr} {Ow : Own} {loc : Loc} {q : Bool} {eo : Option TypeId} {es : List (List (aC m))} {v : Value} (h : lO P w F N Ow loc q eo es v) : aR2 w F N es v := by
  rcases h with ⟨rfl, rfl⟩ | ⟨g, cap, cur, e, i, vals, hn, he, hi, hz, rfl, hg, hc, hm, hs, hx, ho, hf, ht, hr⟩
  · exact ⟨none, 0, 0, [], rfl, Nat.le_refl _, by simp, by simp, fun h => by simp at h, cU.nil _ _ _⟩
  · refine ⟨_, cap, i.size, vals, rfl, hc, hx, by rw [hr.1, eI hx], fun _ => ⟨g, 0, rfl, fun j v hj => ?_⟩, hr⟩
    subst ht
    rw [List.getElem?_take] at hj
    split at hj
    · simp only [World.cell?, hg]; simpa using hj
    · simp at hj
theorem aR.seeOf {P : Program} {w : World} {F : Fr} {Ow : Own} {bm : Nat → Nat} {al : Nat → Bool} {loc : Loc} {x : (SV m)} {v : Value} (h : aR P w F N Ow bm al loc x v) : ∀ l, x.see = .leaf l → aVi w F N l v := by
  intro l hl
  cases x with
  | raw eo es =>
    simp only [SV.see, SV.leaf.injEq] at hl
    subst hl
    exact lO.row h
  | own eo es =>
    simp only [SV.see, SV.drop, SV.leaf.injEq] at hl
    subst hl
    exact lO.row h
  | leaf l0 =>
    simp only [SV.see, SV.drop, SV.leaf.injEq] at hl
    subst hl
    exact eB.see h
  | _ => simp [SV.see, SV.drop] at hl
theorem aR.bslSee {P : Program} {w : World} {F : Fr} {Ow : Own} {bm : Nat → Nat} {al : Nat → Bool} {loc : Loc} {x : (SV m)} {v : Value} (h : aR P w F N Ow bm al loc x v) : ∀ b z lo n, x.see = .bsl b z lo n → ∃ A cap, v = .slice A n cap := by
  intro b z lo n hl
  cases x with
  | bsl b' z' lo' n' =>
    simp only [SV.see, SV.drop, SV.bsl.injEq] at hl
    obtain ⟨rfl, rfl, rfl, rfl⟩ := hl
    rcases h with ⟨⟨rfl, A, cap, e⟩ | ⟨cap, e, _⟩, _⟩
    · exact ⟨A, cap, e⟩
    · exact ⟨_, cap, e⟩
  | _ => simp [SV.see, SV.drop] at hl
structure Low (N : Env) (w : World) (F : Fr) : Prop where
  le : N.n ≤ w.heap.size
  know : ∀ k ∈ N.K, k.1.2 < F k.1.1 ∧ N.Z k.1.1 = false ∧ w.cell? ⟨k.1.1, k.1.2, none⟩ = some k.2
  size : ∀ k ∈ N.B, BSz w k.1 k.2
theorem Low.to {w w' : World} {F F' : Fr} (h : Low N w F) (hk : eN N w F w' F') (hs : w.heap.size ≤ w'.heap.size) : Low N w' F' :=
  ⟨Nat.le_trans h.le hs, fun k hm => by
    obtain ⟨h1, h2, h3⟩ := h.know k hm
    exact ⟨Nat.lt_of_lt_of_le h1 (hk.le _), h2, by rw [hk.hard _ _ h1 h2]; exact h3⟩, fun k hm => hk.sz _ _ (h.size k hm)⟩
structure Inv (P : Program) (s : (St m)) (tmps : Array Value) (w : World) (F : Fr) (N : Env) (Ow : Own) (bm : Nat → Nat) : Prop where
  len : s.tmps.length = tmps.size
  slot : ∀ t, aR P w F N Ow bm (fun b => (aW s.boxes b).isSome) (.tmp t) (s.tmps.getD t .any) (tmps.getD t undef)
  box : ∀ b cs, aW s.boxes b = some cs → cs = [] ∨ ∃ cur e, w.heap[bm b]? = some (.cells cur e (0, 0)) ∧ cs.length ≤ cur.size ∧ F (bm b) = 0 ∧ Ow (bm b) = some (.blk b) ∧
    ∀ (j : Nat) (c : (SV m)) (u : Value), cs[j]? = some c → cur[j]? = some u → aR P w F N Ow bm (fun b => (aW s.boxes b).isSome) (.box b j) c u
  low : Low N w F
  new : ∀ g, w.heap.size ≤ g → F g = 0 ∧ Ow g = none
  bmn : ∀ b cs, aW s.boxes b = some cs → N.n ≤ bm b
  zow : ∀ g, N.Z g = true → Ow g = none ∧ ∃ cur e, w.heap[g]? = some (.cells cur e (0, 0))
structure Far (N : Env) (w : World) (F : Fr) (Ow : Own) (w' : World) (F' : Fr) (Ow' : Own) : Prop where
  os : w'.os = w.os
  tape : w'.tape = w.tape
  output : w'.output = w.output
  size : w.heap.size ≤ w'.heap.size
  keeps : eN N w F w' F'
  old : ∀ g, g < w.heap.size → Ow g = none → (N.Z g = false → w'.heap[g]? = w.heap[g]?) ∧ F' g = F g ∧ Ow' g = none
theorem Far.refl (w : World) (F : Fr) (Ow : Own) : Far N w F Ow w F Ow := ⟨rfl, rfl, rfl, Nat.le_refl _, eN.refl _ _, fun _ _ h => ⟨fun _ => rfl, rfl, h⟩⟩
theorem Far.trans {w w1 w2 : World} {F F1 F2 : Fr} {O O1 O2 : Own} (h : Far N w F O w1 F1 O1) (k : Far N w1 F1 O1 w2 F2 O2) : Far N w F O w2 F2 O2 :=
  ⟨k.os.trans h.os, k.tape.trans h.tape, k.output.trans h.output, Nat.le_trans h.size k.size, h.keeps.trans k.keeps, fun g hg ho => by
    obtain ⟨a, b, c⟩ := h.old g hg ho
    obtain ⟨a', b', c'⟩ := k.old g (Nat.lt_of_lt_of_le hg h.size) c
    exact ⟨fun hz => (a' hz).trans (a hz), b'.trans b, c'⟩⟩
end Go.Vs
end
section
namespace Go.Vs
variable {m : Bool}
variable {P : Program} {w : World} {F : Fr} {N : Env}
def aR9 : TypeDesc → Bool | .struct _ | .array _ _ => true | _ => false
theorem wI {t : TypeId} {d : TypeDesc} (h : P.underlying t = some d) : (isAgg t).run P w = .ok (aR9 d) w := by
  simp only [isAgg, Sem.run_bind, run_underlying h, Result.andThen_ok]
  cases d <;> rfl
theorem iX {t : TypeId} {i : TypeInfo} (h : P.info? t = some i) : (sizeOf t).run P w = .ok i.size w := by
  simp [sizeOf, typeInfo, h]
theorem lT {k : IntKind} {n : Int} {v : Value} (h : eB (m := m) w F N (.int k n) v) : v = .int k n := by cases h; rfl
theorem qU {b : Bool} {v : Value} (h : eB (m := m) w F N (.bool b) v) : v = .bool b := by cases h; rfl
theorem rT {s : ByteArray} {v : Value} (h : eB (m := m) w F N (.str s) v) : v = .string s := by cases h; rfl
theorem aS1 {op : BinOp} {k : IntKind} {a b : Int} {l : (aC m)} (t : TypeId) (h : aDq op k a b = some l) (hop : op ≠ .shl ∧ op ≠ .shr) :
    ∃ v, (binOp op t (.int k a) (.int k b)).run P w = .ok v w ∧ eB w F N l v := by
  cases op <;> simp only [aDq] at h <;> simp at hop <;> try (simp at h; done)
  all_goals try (simp only [Option.some.injEq] at h; subst h)
  case add => exact ⟨_, by simp [binOp, Op.intArith], .int _ _⟩
  case sub => exact ⟨_, by simp [binOp, Op.intArith], .int _ _⟩
  case mul => exact ⟨_, by simp [binOp, Op.intArith], .int _ _⟩
  case quo =>
    split at h
    · simp at h
    · simp only [Option.some.injEq] at h; subst h; rename_i hb; exact ⟨_, by simp [binOp, Op.intDiv, hb], .int _ _⟩
  case rem =>
    split at h
    · simp at h
    · simp only [Option.some.injEq] at h; subst h; rename_i hb; exact ⟨_, by simp [binOp, Op.intDiv, hb], .int _ _⟩
  case and => exact ⟨_, by simp [binOp, Op.intBits], .int _ _⟩
  all_goals exact ⟨_, by simp [binOp, Op.intCmp], .bool _⟩
theorem aUn {op : BinOp} {k k' : IntKind} {a b : Int} {l : (aC m)} (t : TypeId) (h : aDq op k a b = some l) (hop : op = .shl ∨ op = .shr) :
    ∃ v, (binOp op t (.int k a) (.int k' b)).run P w = .ok v w ∧ eB w F N l v := by
  rcases hop with rfl | rfl <;> simp only [aDq] at h <;> split at h <;> simp at h <;> subst h <;> rename_i hb
  · exact ⟨_, by simp [binOp, Op.shift, hb], .int _ _⟩
  · exact ⟨_, by simp [binOp, Op.shift, hb], .int _ _⟩
theorem aSG {op : BinOp} {a b : ByteArray} {l : (aC m)} (t : TypeId) (h : aNU op a b = some l) :
    ∃ v, (binOp op t (.string a) (.string b)).run P w = .ok v w ∧ eB w F N l v := by
  cases op <;> simp only [aNU] at h <;> try (simp at h; done)
  case add =>
    split at h
    · rename_i hs
      simp at h; subst h
      exact ⟨_, by simp only [binOp]; exact run_string_add_sum (P := P) (w := w) a b (by omega), .str _⟩
    · simp at h
  all_goals (simp only [Option.some.injEq] at h; subst h; exact ⟨_, by simp only [binOp, Op.stringOp, Sem.run_pure], .bool _⟩)
theorem aQO {d : Nat} {a b : Bool} {t : TypeId} (ht : P.underlying t = some .bool) : (Op.equalIn (d + 1) t (.bool a) (.bool b)).run P w = .ok (a == b) w := by
  simp [Op.equalIn, run_underlying ht]
theorem aQP {op : BinOp} {a b : Bool} {l : (aC m)} {t : TypeId} (ht : P.underlying t = some .bool) (h : aQ4 op a b = some l) :
    ∃ v, (binOp op t (.bool a) (.bool b)).run P w = .ok v w ∧ eB w F N l v := by
  cases op <;> simp only [aQ4] at h <;> try (simp at h; done)
  all_goals
    simp only [Option.some.injEq] at h
    subst h
    have he : (Op.equal t (.bool a) (.bool b)).run P w = .ok (a == b) w := aQO (d := 9999) ht
  · exact ⟨.bool (a == b), by
      rw [show binOp .eql t (.bool a) (.bool b) = (do pure (.bool (← Op.equal t (.bool a) (.bool b)))) from rfl]
      simp [he], .bool _⟩
  · exact ⟨.bool (!(a == b)), by
      rw [show binOp .neq t (.bool a) (.bool b) = (do pure (.bool (!(← Op.equal t (.bool a) (.bool b))))) from rfl]
      simp [he], .bool _⟩
theorem aM9 {t : TypeId} {cs : Array Value} {j : Nat} {v : Value} {d : TypeDesc} (hu : P.underlying t = some d) (hd : aR9 d = false) (h : cs[j]? = some v) :
    (part t cs j).run P w = .ok v w := by
  simp [part, wI hu, hd, h]
theorem aRu {t : TypeId} {a b : (aC m)} {e : Bool} {d : Nat} {u v : Value} (h : aQ3 P t a b = some e) (ha : eB w F N a u) (hb : eB w F N b v) :
    (Op.equalIn (d + 1) t u v).run P w = .ok e w ∧ ∃ d', P.underlying t = some d' ∧ aR9 d' = false := by
  unfold aQ3 at h
  split at h
  · rename_i hu
    split at h
    · rename_i hk; subst hk
      simp only [Option.some.injEq] at h; subst h
      cases lT ha; cases lT hb
      exact ⟨by simp [Op.equalIn, run_underlying hu], _, hu, rfl⟩
    · simp at h
  · rename_i hu
    simp only [Option.some.injEq] at h; subst h
    cases qU ha; cases qU hb
    exact ⟨by simp [Op.equalIn, run_underlying hu], _, hu, rfl⟩
  · rename_i hu
    simp only [Option.some.injEq] at h; subst h
    cases rT ha; cases rT hb
    exact ⟨by simp [Op.equalIn, run_underlying hu], _, hu, rfl⟩
  · simp at h
theorem aGr {d : Nat} {xs ys : Array Value} : ∀ (fs : List Field) (j : Nat) (a b : List (aC m)) (e : Bool), tU P j fs a b = some e →
    cU w F N a (xs.toList.drop j) → cU w F N b (ys.toList.drop j) → (Op.eqFields (d + 1) xs ys fs).run P w = .ok e w
  | [], j, [], [], e, h, _, _ => by simp [tU] at h; subst h; simp [Op.eqFields]
  | [], _, [], _ :: _, _, h, _, _ | [], _, _ :: _, _, _, h, _, _ => by simp [tU] at h
  | _ :: _, _, [], _, _, h, _, _ => by simp [tU] at h
  | _ :: _, _, _ :: _, [], _, h, _, _ => by simp [tU] at h
  | f :: fs, j, a :: x, b :: y, e, h, ha, hb => by
    simp only [tU] at h
    split at h
    · rename_i hf
      simp only [Bool.and_eq_true, beq_iff_eq, bne_iff_ne, ne_eq] at hf
      obtain ⟨hoff, hn⟩ := hf
      rw [Option.bind_eq_some_iff] at h
      obtain ⟨e1, h1, h2⟩ := h
      rw [Option.map_eq_some_iff] at h2
      obtain ⟨e2, h3, rfl⟩ := h2
      obtain ⟨u, xs', hx, hu1, hx1⟩ := ha.uncons
      obtain ⟨v, ys', hy, hv1, hy1⟩ := hb.uncons
      obtain ⟨he, d', hd1, hd2⟩ := aRu (d := d) h1 hu1 hv1
      have gx : xs[j]? = some u := by
        have := congrArg (·[0]?) hx
        simpa using this
      have gy : ys[j]? = some v := by
        have := congrArg (·[0]?) hy
        simpa using this
      have tx : xs.toList.drop (j + 1) = xs' := by rw [← List.drop_drop, hx]; rfl
      have ty : ys.toList.drop (j + 1) = ys' := by rw [← List.drop_drop, hy]; rfl
      have ih := aGr (d := d) fs (j + 1) x y e2 h3 (by rw [tx]; exact hx1) (by rw [ty]; exact hy1)
      have px : (part f.type xs f.offset).run P w = .ok u w := by rw [hoff]; exact aM9 hd1 hd2 gx
      have py : (part f.type ys f.offset).run P w = .ok v w := by rw [hoff]; exact aM9 hd1 hd2 gy
      rw [Op.eqFields]
      simp only [if_pos hn, Sem.run_bind, px, py, he, Result.andThen_ok]
      cases e1
      · simp
      · simpa using ih
    · simp at h
theorem aGz {t : TypeId} {a b : List (aC m)} {e : Bool} {xs ys : Array Value} (h : aFM P t a b = some e) (ha : cU w F N a xs.toList) (hb : cU w F N b ys.toList) :
    (Op.equal t (.agg xs) (.agg ys)).run P w = .ok e w ∧ P.eqGuardType P.depth t = false := by
  unfold aFM at h
  split at h
  · rename_i fs hu
    split at h
    · simp at h
    · rename_i hg
      simp only [Bool.or_eq_true, not_or, Bool.not_eq_true] at hg
      refine ⟨?_, hg.2⟩
      have hf : P.fieldsOf t = fs := by simp [Program.fieldsOf, hu]
      unfold Op.equal Op.maxDepth
      rw [run_equalIn_struct (P := P) w 9999 t xs ys (by rw [hf]; exact hu) hg.1, hf]
      exact aGr (d := 9998) fs.toList 0 a b e h (by simpa using ha) (by simpa using hb)
  · simp at h
theorem yV {op : BinOp} {t : TypeId} {x y : Operand} {u v : Value} (hu : u ≠ .nilIface) (ha : ∀ c, u ≠ .agg c) : (eqGuard op t x y u v).run P w = .ok () w := by
  cases op <;> try rfl
  all_goals (cases u <;> first | rfl | exact absurd rfl hu | exact absurd rfl (ha _))
theorem aUc {op : BinOp} {t : TypeId} {x y : (SV m)} {v : (SV m)} {u u' : Value} {o o' : Operand} (h : aPa P op t x y = some v)
    (hx : ∀ l, x.drop = .leaf l → eB w F N l u) (hy : ∀ l, y.drop = .leaf l → eB w F N l u')
    (hxa : ∀ cs, x.drop = .agg cs → ∃ vs, u = .agg vs ∧ cU w F N cs vs.toList) (hya : ∀ cs, y.drop = .agg cs → ∃ vs, u' = .agg vs ∧ cU w F N cs vs.toList) :
    ∃ z, (do eqGuard op t o o' u u'; binOp op t u u').run P w = .ok z w ∧ ∃ l, v = .leaf l ∧ eB w F N l z := by
  unfold aPa at h
  split at h
  · rename_i k a k' b ex ey
    cases lT (hx _ ex); cases lT (hy _ ey)
    have hg : (eqGuard op t o o' (.int k a) (.int k' b)).run P w = .ok () w := yV (by simp) (by simp)
    simp only [Sem.run_bind, hg, Result.andThen_ok]
    split at h
    · rename_i hop
      rw [Option.map_eq_some_iff] at h
      obtain ⟨l, hl, rfl⟩ := h
      obtain ⟨z, h1, h2⟩ := aUn (P := P) (w := w) (F := F) (N := N) (k' := k') t hl (by cases op <;> simp [aLO] at hop ⊢)
      exact ⟨z, h1, l, rfl, h2⟩
    · rename_i hop
      split at h
      · rename_i hk; subst hk
        rw [Option.map_eq_some_iff] at h
        obtain ⟨l, hl, rfl⟩ := h
        obtain ⟨z, h1, h2⟩ := aS1 (P := P) (w := w) (F := F) (N := N) t hl (by constructor <;> rintro rfl <;> simp [aLO] at hop)
        exact ⟨z, h1, l, rfl, h2⟩
      · simp at h
  · rename_i a b ex ey
    cases rT (hx _ ex); cases rT (hy _ ey)
    have hg : (eqGuard op t o o' (.string a) (.string b)).run P w = .ok () w := yV (by simp) (by simp)
    simp only [Sem.run_bind, hg, Result.andThen_ok]
    rw [Option.map_eq_some_iff] at h
    obtain ⟨l, hl, rfl⟩ := h
    obtain ⟨z, h1, h2⟩ := aSG (P := P) (w := w) (F := F) (N := N) t hl
    exact ⟨z, h1, l, rfl, h2⟩
  · rename_i a b ex ey
    cases qU (hx _ ex); cases qU (hy _ ey)
    have hg : (eqGuard op t o o' (.bool a) (.bool b)).run P w = .ok () w := yV (by simp) (by simp)
    simp only [Sem.run_bind, hg, Result.andThen_ok]
    split at h
    · rename_i hb
      have ht : P.underlying t = some .bool := by unfold aRE at hb; split at hb <;> simp_all
      rw [Option.map_eq_some_iff] at h
      obtain ⟨l, hl, rfl⟩ := h
      obtain ⟨z, h1, h2⟩ := aQP (P := P) (w := w) (F := F) (N := N) ht hl
      exact ⟨z, h1, l, rfl, h2⟩
    · simp at h
  · rename_i a b ex ey
    obtain ⟨xs, rfl, rx⟩ := hxa _ ex
    obtain ⟨ys, rfl, ry⟩ := hya _ ey
    split at h
    · rw [Option.map_eq_some_iff] at h
      obtain ⟨e, he, rfl⟩ := h
      obtain ⟨h1, h2⟩ := aGz he rx ry
      exact ⟨.bool e, by simp [eqGuard, h2, binOp, h1], _, rfl, .bool _⟩
    · rw [Option.map_eq_some_iff] at h
      obtain ⟨e, he, rfl⟩ := h
      obtain ⟨h1, h2⟩ := aGz he rx ry
      exact ⟨.bool !e, by simp [eqGuard, h2, binOp, h1], _, rfl, .bool _⟩
    · simp at h
  · simp at h
end Go.Vs
end
section
namespace Go.Vs
variable {m : Bool}
variable {P : Program} {w : World} {F : Fr} {N : Env}
theorem aU {β : Type} {b : Bool} {x : Option β} {y : β} (h : aA b x = some y) : b = true ∧ x = some y := by
  cases b
  · simp [aA] at h
  · exact ⟨rfl, h⟩
theorem aFV {n : Nat} {es : List (List (aC m))} (h : sized n es = true) : ∀ e ∈ es, e.length = n := by
  intro e he
  have := List.all_eq_true.1 h e he
  simpa using this
theorem aCQ {z : Nat} : ∀ (es : List (List (aC m))) (n : Nat), (∀ e ∈ es, e.length = z) → (es.drop n).flatten = es.flatten.drop (n * z)
  | [], n, _ => by simp
  | e :: es, 0, _ => by simp
  | e :: es, n + 1, h => by
    rw [List.drop_succ_cons, aCQ es n (fun x hx => h x (List.mem_cons_of_mem _ hx)), List.flatten_cons, List.drop_append]
    have := h e List.mem_cons_self
    rw [List.drop_eq_nil_of_le (as := e) (by rw [Nat.add_mul]; omega), List.nil_append]
    congr 1
    rw [Nat.add_mul]; omega
theorem aJi {z : Nat} : ∀ (es : List (List (aC m))) (n : Nat), (∀ e ∈ es, e.length = z) → (es.take n).flatten = es.flatten.take (n * z)
  | [], n, _ => by simp
  | e :: es, 0, _ => by simp
  | e :: es, n + 1, h => by
    rw [List.take_succ_cons, List.flatten_cons, aJi es n (fun x hx => h x (List.mem_cons_of_mem _ hx)), List.flatten_cons, List.take_append]
    have := h e List.mem_cons_self
    rw [List.take_of_length_le (l := e) (by rw [Nat.add_mul]; omega)]
    congr 2
    rw [Nat.add_mul]; omega
theorem aQR {z : Nat} {es : List (List (aC m))} {n : Nat} {e : List (aC m)} (h : ∀ e ∈ es, e.length = z) (he : es[n]? = some e) : (es.flatten.drop (n * z)).take z = e := by
  rw [← aCQ es n h]
  have hlt := (List.getElem?_eq_some_iff.1 he).1
  have : es.drop n = e :: es.drop (n + 1) := by
    rw [List.drop_eq_getElem_cons hlt]
    congr 1
    exact (List.getElem?_eq_some_iff.1 he).2
  rw [this, List.flatten_cons, List.take_append]
  have hl := h e (List.mem_of_getElem? he)
  rw [List.take_of_length_le (by omega)]
  simp [hl]
theorem nQ {t : TypeId} {n : Nat} (h : dS P t = some n) : ∃ d i, P.underlying t = some d ∧ P.info? t = some i ∧ i.size = n := by
  unfold dS at h
  split at h
  · rename_i d hd
    rw [Option.map_eq_some_iff] at h
    obtain ⟨i, hi, rfl⟩ := h
    exact ⟨d, i, hd, hi, rfl⟩
  · simp at h
theorem uN {t e : TypeId} (h : oY P t = some e) : P.underlying t = some (.slice e) := by
  unfold oY at h
  split at h <;> simp_all
theorem aB9 {t : TypeId} {d : TypeDesc} (h : P.underlying t = some d) : kW P t = aR9 d := by
  unfold kW
  cases d <;> simp [h, aR9]
theorem aR8 {x : (SV m)} {n : Nat} {v : Value} (h : aRZ x = some n) (hx : ∀ l, x = .leaf l → eB w F N l v) : ∃ k, v = .int k n := by
  unfold aRZ at h
  split at h
  · rename_i k m
    split at h
    · rename_i hm
      simp only [Option.some.injEq] at h
      subst h
      refine ⟨k, ?_⟩
      have := lT (hx _ rfl)
      rw [this]
      congr 1
      omega
    · simp at h
  · simp at h
theorem aSR {t : TypeId} {cs : List (aC m)} {o : Nat} {v : (SV m)} {vs : Array Value} (h : aBN P t cs o = some v) (hr : cU w F N cs vs.toList) :
    ∃ z, (part t vs o).run P w = .ok z w ∧ ((∃ l, v = .leaf l ∧ eB w F N l z) ∨ ∃ ls us, v = .agg ls ∧ z = .agg us ∧ cU w F N ls us.toList) := by
  unfold aBN at h
  cases hd : P.underlying t with
  | none =>
    have : kW P t = true := by simp [kW, hd]
    simp [this, dS, hd] at h
  | some d =>
    rw [aB9 hd] at h
    split at h
    · rename_i ha
      rw [Option.bind_eq_some_iff] at h
      obtain ⟨n, hn, h⟩ := h
      obtain ⟨d', i, hd', hi, rfl⟩ := nQ hn
      split at h
      · rename_i hle
        simp only [Option.some.injEq] at h
        subst h
        refine ⟨.agg (vs.extract o (o + i.size)), by simp [part, wI hd, ha, iX hi], .inr ⟨_, _, rfl, rfl, ?_⟩⟩
        have := (hr.drop o).take i.size
        simpa [Array.toList_extract, List.extract_eq_take_drop] using this
      · simp at h
    · rename_i ha
      rw [Option.map_eq_some_iff] at h
      obtain ⟨l, hl, rfl⟩ := h
      obtain ⟨z, hz, hr'⟩ := hr.get hl
      exact ⟨z, aM9 hd (by simpa using ha) (by simpa using hz), .inl ⟨l, rfl, hr'⟩⟩
theorem aTJ {ts : Array TypeId} {ty : TypeId} {x v : (SV m)} {u : Value} (h : aTj P ts x = some v) (hx : ∀ l, x.see = .leaf l → aVi w F N l u) (hb : ∀ b z lo n, x.see = .bsl b z lo n → ∃ A cap, u = .slice A n cap) :
    ∃ z, (Builtin.len_ ts ty #[u]).run P w = .ok z w ∧ ∃ l, v = .leaf l ∧ eB w F N l z := by
  unfold aTj at h
  cases ht : ts[0]? with
  | none => rw [ht] at h; simp at h
  | some t =>
    rw [ht] at h
    simp only [Option.bind_some] at h
    split at h
    · rename_i s hu ex
      simp only [Option.some.injEq] at h; subst h
      cases rT (show eB w F N (.str s) u from hx _ ex)
      exact ⟨.int .i64 s.size, by simp [Builtin.len_, ht, run_underlying hu, goInt], _, rfl, .int _ _⟩
    · rename_i e c es hu ex
      simp only [Option.some.injEq] at h; subst h
      obtain ⟨A, cap, z, vals, rfl, _⟩ := hx _ ex
      exact ⟨.int .i64 es.length, by simp [Builtin.len_, ht, run_underlying hu, goInt], _, rfl, .int _ _⟩
    · rename_i e b z lo n hu ex
      simp only [Option.some.injEq] at h; subst h
      obtain ⟨A, cap, rfl⟩ := hb _ _ _ _ ex
      exact ⟨.int .i64 n, by simp [Builtin.len_, ht, run_underlying hu, goInt], _, rfl, .int _ _⟩
    · simp at h
theorem aPu {b : Bool} {ts : Array TypeId} {ty : TypeId} {x y v : (SV m)} {u u' : Value} (h : aP2 b x y = some v) (hx : ∀ l, x = .leaf l → eB w F N l u) (hy : ∀ l, y = .leaf l → eB w F N l u') :
    ∃ z, (if b then Builtin.max_ ts ty #[u, u'] else Builtin.min_ ts ty #[u, u']).run P w = .ok z w ∧ ∃ l, v = .leaf l ∧ eB w F N l z := by
  unfold aP2 at h
  split at h
  · rename_i k a k' c
    split at h
    · rename_i hk; subst hk
      simp only [Option.some.injEq] at h; subst h
      cases lT (hx _ rfl); cases lT (hy _ rfl)
      cases b
      · exact ⟨.int k (if c < a then c else a), by simp [Builtin.min_, Builtin.min2], _, rfl, by simpa using .int _ _⟩
      · exact ⟨.int k (if a < c then c else a), by simp [Builtin.max_, Builtin.max2], _, rfl, by simpa using .int _ _⟩
    · simp at h
  · simp at h
theorem aQI {t : TypeId} {x i v : (SV m)} {u u' : Value} (h : aHA P t x i = some v) (hx : ∀ l, x = .leaf l → eB w F N l u) (hi : ∀ l, i = .leaf l → eB w F N l u') :
    ∃ z, (Instr.index t u u').run P w = .ok z w ∧ ∃ l, v = .leaf l ∧ eB w F N l z := by
  unfold aHA at h
  split at h
  · rename_i s k n hu
    split at h
    · rename_i h0
      split at h
      · rename_i hn
        simp only [Option.some.injEq] at h; subst h
        cases rT (hx _ rfl); cases lT (hi _ rfl)
        have hlt : n.toNat < s.size := by omega
        have hb : (if 0 ≤ n then s[n.toNat]? else none) = some s[n.toNat] := by rw [if_pos h0]; exact getElem?_pos s n.toNat hlt
        have he : s.data.toList.getD n.toNat 0 = s[n.toNat] := by
          have : n.toNat < s.data.toList.length := by rw [Array.length_toList]; exact hlt
          rw [List.getD_eq_getElem?_getD, List.getElem?_eq_getElem this]
          simp [ByteArray.getElem_eq_getElem_data]
        refine ⟨.int .u8 s[n.toNat].toNat, by simp only [Instr.index, asIntOf, Sem.run_bind, Sem.run_pure, Result.andThen_ok, run_underlying hu, hb], _, rfl, ?_⟩
        rw [he]
        exact .int _ _
      · simp at h
    · simp at h
  · simp at h
end Go.Vs
end
section
namespace Go.Vs
variable {m : Bool}
variable {P : Program} {w : World} {F : Fr} {N : Env}
def aCy (v : Option Value) (n : Option Nat) : Prop := (v = none ∧ n = none) ∨ ∃ (k : IntKind) (m : Nat), v = some (.int k m) ∧ n = some m
theorem iP {k : IntKind} {m y : Nat} (code : BoundsCode) (h : m ≤ y) : (Instr.sliceBound (.int k m) y code).run P w = .ok m w := by
  have h0 : (0 : Int) ≤ (m : Int) ∧ (m : Int) ≤ (y : Int) := by omega
  simp [Instr.sliceBound, asIntOf, h]
theorem yN {b : Bool} {len cap : Nat} {lo hi : Option Value} {l h : Option Nat} (hl : aCy lo l) (hh : aCy hi h) (h1 : l.getD 0 ≤ h.getD len) (h2 : h.getD len ≤ cap) :
    (Instr.sliceBounds b len cap lo hi none).run P w = .ok (l.getD 0, h.getD len, cap) w := by
  rcases hl with ⟨rfl, rfl⟩ | ⟨k, m, rfl, rfl⟩ <;> rcases hh with ⟨rfl, rfl⟩ | ⟨k', m', rfl, rfl⟩ <;> simp only [Option.getD_none, Option.getD_some] at h1 h2 ⊢
  · simp [Instr.sliceBounds]
  · simp [Instr.sliceBounds, iP _ h2]
  · simp [Instr.sliceBounds, iP _ h1]
  · simp [Instr.sliceBounds, iP _ h1, iP _ h2]
theorem qF (g o n : Nat) : (⟨g, o, none⟩ : Addr).add n = ⟨g, o + n, none⟩ := by unfold Addr.add; split <;> simp_all
def aDi (bm : Nat → Nat) (al : Nat → Bool) (b z lo n : Nat) (u : Value) : Prop := ((n = 0 ∧ ∃ A cap, u = .slice A 0 cap) ∨ ∃ cap, u = .slice (some ⟨bm b, lo * z, none⟩) n cap ∧ n ≤ cap) ∧ al b = true
theorem aDi.len {bm : Nat → Nat} {al : Nat → Bool} {b z lo n : Nat} {u : Value} (h : aDi bm al b z lo n u) : ∃ A cap, u = .slice A n cap ∧ n ≤ cap ∧ (0 < n → A = some ⟨bm b, lo * z, none⟩) := by
  rcases h with ⟨⟨rfl, A, cap, rfl⟩ | ⟨cap, rfl, hc⟩, _⟩
  · exact ⟨A, cap, rfl, Nat.zero_le _, fun h => by omega⟩
  · exact ⟨_, cap, rfl, hc, fun _ => rfl⟩
theorem aPN {bm : Nat → Nat} {al : Nat → Bool} {b z lo n l h m : Nat} {A : Option Addr} (ha : al b = true) (hA : 0 < n → A = some ⟨bm b, lo * z, none⟩) (h1 : l ≤ h) (h2 : h ≤ m) (h3 : h ≤ n) :
    aDi bm al b z (lo + l) (h - l) (.slice (if m = l then A else A.map (·.add (l * z))) (h - l) (m - l)) := by
  refine ⟨?_, ha⟩
  by_cases h0 : h - l = 0
  · exact .inl ⟨h0, _, m - l, by rw [h0]⟩
  · refine .inr ⟨m - l, ?_, by omega⟩
    rw [if_neg (by omega), hA (by omega)]
    simp only [Option.map_some, qF]
    rw [Nat.add_mul]
theorem aRq {t : TypeId} {x v : (SV m)} {l h : Option Nat} {u : Value} {lo hi : Option Value} (hv : aCT P t x l h = some v) (hx : ∀ l, x.drop = .leaf l → eB w F N l u) (hl : aCy lo l) (hh : aCy hi h)
    {bm : Nat → Nat} {al : Nat → Bool} (hbx : ∀ b z lo n, x.drop = .bsl b z lo n → aDi bm al b z lo n u) :
    ∃ z, (Instr.sliceAt t u lo hi none).run P w = .ok z w ∧ ∀ Ow loc, aR P w F N Ow bm al loc v z := by
  suffices hs : (∃ z, (Instr.sliceAt t u lo hi none).run P w = .ok z w ∧ ∃ l, v = .leaf l ∧ eB w F N l z) ∨ (∃ z, (Instr.sliceAt t u lo hi none).run P w = .ok z w ∧ ∃ b z' k n, v = .bsl b z' k n ∧ aDi bm al b z' k n z) by
    rcases hs with ⟨z, h1, l, rfl, h2⟩ | ⟨z, h1, b, z', k, n, rfl, h2⟩
    · exact ⟨z, h1, fun Ow loc => by simp only [aR, dF]; exact h2⟩
    · exact ⟨z, h1, fun Ow loc => by simp only [aR, dF]; exact h2⟩
  unfold aCT at hv
  split at hv
  · right
    rename_i e b z k n hu ex
    obtain ⟨A, cap, rfl, hc, hA⟩ := (hbx _ _ _ _ ex).len
    rw [Option.bind_eq_some_iff] at hv
    obtain ⟨e', he', hv⟩ := hv
    rw [Option.bind_eq_some_iff] at hv
    obtain ⟨z', hz, hv⟩ := hv
    obtain ⟨d, i, hd, hi', rfl⟩ := nQ hz
    have := uN he'
    rw [hu] at this
    cases this
    split at hv
    · rename_i hbd
      obtain ⟨hbd, rfl⟩ := hbd
      simp only [Option.some.injEq] at hv; subst hv
      exact ⟨_, by simp [Instr.sliceAt, Instr.slice, run_underlying hu, yN hl hh hbd.1 (Nat.le_trans hbd.2 hc), iX hi'], _, _, _, _, rfl, aPN (hbx _ _ _ _ ex).2 hA hbd.1 (Nat.le_trans hbd.2 hc) hbd.2⟩
    · simp at hv
  all_goals left
  · rename_i s hu ex
    cases rT (hx _ ex)
    split at hv
    · rename_i hb
      simp only [Option.some.injEq] at hv; subst hv
      refine ⟨.string (s.extract (l.getD 0) (h.getD s.size)), ?_, _, rfl, .str _⟩
      simp [Instr.sliceAt, Instr.slice, run_underlying hu, yN hl hh hb.1 hb.2]
    · simp at hv
  · rename_i e c es hu ex
    obtain ⟨A, cap, z, vals, rfl, hc, hz, hvl, hcell, hr⟩ := aFT (hx _ ex)
    rw [Option.bind_eq_some_iff] at hv
    obtain ⟨e', he', hv⟩ := hv
    rw [Option.bind_eq_some_iff] at hv
    obtain ⟨n, hn, hv⟩ := hv
    obtain ⟨d, i, hd, hi', rfl⟩ := nQ hn
    have := uN he'
    rw [hu] at this
    cases this
    split at hv
    · rename_i hb
      obtain ⟨hs, hv⟩ := aU hv
      simp only [Option.some.injEq] at hv; subst hv
      have hs' := aFV hs
      refine ⟨_, by simp [Instr.sliceAt, Instr.slice, run_underlying hu, yN hl hh hb.1 (Nat.le_trans hb.2 hc), iX hi']; rfl, _, rfl, ?_⟩
      have hlen : ((es.take (h.getD es.length)).drop (l.getD 0)).length = h.getD es.length - l.getD 0 := by
        rw [List.length_drop, List.length_take]; omega
      rw [← hlen]
      have hflat : ((es.take (h.getD es.length)).drop (l.getD 0)).flatten = (es.flatten.take (h.getD es.length * i.size)).drop (l.getD 0 * i.size) := by
        rw [aCQ _ _ (fun x hx => hs' x (List.mem_of_mem_take hx)), aJi _ _ hs']
      refine nC (z := i.size) (vals := (vals.take (h.getD es.length * i.size)).drop (l.getD 0 * i.size)) (by rw [hlen]; omega) (fun x hx => hs' x (List.mem_of_mem_take (List.mem_of_mem_drop hx))) (fun hpos => ?_) ?_
      · rw [hlen] at hpos
        obtain ⟨g, o, rfl, hN, hle, hso, hcl⟩ := hcell (by omega)
        have hne : ¬ cap = l.getD 0 := by omega
        have hlv : vals.length = es.length * i.size := by rw [hr.1, eI hs']
        have hmul : h.getD es.length * i.size ≤ es.length * i.size := Nat.mul_le_mul_right _ hb.2
        have hmul2 : l.getD 0 * i.size ≤ h.getD es.length * i.size := Nat.mul_le_mul_right _ hb.1
        have hz0 : 0 < i.size := by
          rcases Nat.eq_zero_or_pos i.size with h0 | h0
          · rw [h0] at hlv; have := hN.1; omega
          · exact h0
        have hmul3 : l.getD 0 * i.size < h.getD es.length * i.size := Nat.mul_lt_mul_of_pos_right (by omega) hz0
        refine ⟨g, o + l.getD 0 * i.size, by simp [hne, qF], ⟨by rw [List.length_drop, List.length_take]; omega, hN.2.later⟩, ?_, ⟨fun hs => hso.1 (by rwa [Fl.later_soft] at hs), fun hz' x hx' => hso.2 hz' x ?_⟩, fun j v hj => ?_⟩
        · rw [List.length_drop, List.length_take]; omega
        · rw [hflat] at hx'; exact List.mem_of_mem_take (List.mem_of_mem_drop hx')
        · rw [List.getElem?_drop, List.getElem?_take] at hj
          split at hj
          · have := hcl _ _ hj
            rw [← this, Nat.add_assoc]
          · simp at hj
      · rw [hflat]
        exact (hr.take _).drop _
    · simp at hv
  · simp at hv
theorem aJ7 {b : Bool} {len cap h c : Nat} {lo : Option Value} {l : Option Nat} {k k' : IntKind} (hl : aCy lo l) (h1 : l.getD 0 ≤ h) (h2 : h ≤ c) (h3 : c ≤ cap) :
    (Instr.sliceBounds b len cap lo (some (.int k h)) (some (.int k' c))).run P w = .ok (l.getD 0, h, c) w := by
  rcases hl with ⟨rfl, rfl⟩ | ⟨k, m, rfl, rfl⟩ <;> simp only [Option.getD_none, Option.getD_some] at h1 ⊢
  · simp [Instr.sliceBounds, iP _ h2, iP _ h3]
  · simp [Instr.sliceBounds, iP _ h1, iP _ h2, iP _ h3]
theorem aPy {t : TypeId} {x v : (SV m)} {l h c : Option Nat} {u : Value} {lo hi mx : Option Value} (hv : aCP P t x l h c = some v) (hl : aCy lo l) (hh : aCy hi h) (hc : aCy mx c)
    {bm : Nat → Nat} {al : Nat → Bool} (hbx : ∀ b z lo n, x.drop = .bsl b z lo n → aDi bm al b z lo n u) :
    ∃ z, (Instr.sliceAt t u lo hi mx).run P w = .ok z w ∧ ∀ Ow loc, aR P w F N Ow bm al loc v z := by
  unfold aCP at hv
  split at hv
  · rename_i e b z k n h' c' hu ex
    obtain ⟨A, cap, rfl, hcp, hA⟩ := (hbx _ _ _ _ ex).len
    rw [Option.bind_eq_some_iff] at hv
    obtain ⟨e', he', hv⟩ := hv
    rw [Option.bind_eq_some_iff] at hv
    obtain ⟨z', hz, hv⟩ := hv
    obtain ⟨d, i, hd, hi', rfl⟩ := nQ hz
    have := uN he'
    rw [hu] at this
    cases this
    split at hv
    · rename_i hbd
      obtain ⟨⟨⟨b1, b2⟩, b3⟩, rfl⟩ := hbd
      simp only [Option.some.injEq] at hv; subst hv
      rcases hh with ⟨_, hh⟩ | ⟨k1, m1, rfl, hh⟩
      · cases hh
      rcases hc with ⟨_, hc⟩ | ⟨k2, m2, rfl, hc⟩
      · cases hc
      obtain rfl := Option.some.inj hh
      obtain rfl := Option.some.inj hc
      refine ⟨_, by simp [Instr.sliceAt, Instr.slice, run_underlying hu, aJ7 hl b1 b2 (Nat.le_trans b3 hcp), iX hi']; rfl, fun Ow loc => ?_⟩
      simp only [aR, dF]
      exact aPN (hbx _ _ _ _ ex).2 hA b1 b2 (Nat.le_trans b2 b3)
    · simp at hv
  · simp at hv
theorem aMq {t : TypeId} {x i v : (SV m)} {u u' : Value} (hv : qD P t x i = some v) (hx : ∀ l, x.drop = .leaf l → eB w F N l u) (hi : ∀ l, i = .leaf l → eB w F N l u') {bm : Nat → Nat} {al : Nat → Bool}
    (hb : ∀ b z lo n, x.drop = .bsl b z lo n → aDi bm al b z lo n u) :
    ∃ z, (Instr.indexAt t u u').run P w = .ok z w ∧ ∀ Ow loc, aR P w F N Ow bm al loc v z := by
  unfold qD at hv
  split at hv
  · rename_i e b z lo k kk n he ex
    have hu := uN he
    rw [Option.bind_eq_some_iff] at hv
    obtain ⟨z', hz, hv⟩ := hv
    obtain ⟨d, inf, hd, hinf, rfl⟩ := nQ hz
    split at hv
    · rename_i h0
      split at hv
      · rename_i hn
        split at hv
        · rename_i hzz
          simp only [Option.some.injEq] at hv; subst hv
          have hal := (hb _ _ _ _ ex).2
          obtain ⟨A, cap, rfl, hc, hA⟩ := (hb _ _ _ _ ex).len
          obtain rfl := hA (by omega)
          cases lT (hi _ rfl)
          refine ⟨.pointer (some ⟨bm b, lo * z + n.toNat * inf.size, none⟩), ?_, fun Ow loc => ?_⟩
          · simp [Instr.indexAt, asIntOf, run_underlying hu, iX hinf, h0, hn, qF]
          · simp only [aR, dF]
            exact ⟨by rw [hzz.1, Nat.add_mul], hal⟩
        · simp at hv
      · simp at hv
    · simp at hv
  · rename_i e c es k n he ex
    have hu := uN he
    rw [Option.bind_eq_some_iff] at hv
    obtain ⟨z, hz, hv⟩ := hv
    obtain ⟨d, inf, hd, hinf, rfl⟩ := nQ hz
    split at hv
    · rename_i h0
      split at hv
      · rename_i hn
        obtain ⟨hs, hv⟩ := aU hv
        simp only [Option.some.injEq] at hv; subst hv
        obtain ⟨A, cap, z, vals, rfl, hc, hz', hvl, hcell, hr⟩ := aFT (hx _ ex)
        cases lT (hi _ rfl)
        have hs' := aFV hs
        have hlt : n.toNat < es.length := by omega
        obtain ⟨g, o, rfl, hN, hle, hso, hcl⟩ := hcell (by omega)
        have hge : es[n.toNat]? = some es[n.toNat] := List.getElem?_eq_getElem hlt
        have hel : es[n.toNat].length = inf.size := hs' _ (List.getElem_mem hlt)
        have hlv : vals.length = es.length * inf.size := by rw [hr.1, eI hs']
        have hmul : n.toNat * inf.size + inf.size ≤ es.length * inf.size := by
          rw [← Nat.succ_mul]; exact Nat.mul_le_mul_right _ hlt
        refine ⟨.pointer (some ⟨g, o + n.toNat * inf.size, none⟩), ?_, fun Ow loc => ?_⟩
        · have hn' : n < (es.length : Int) := hn
          simp [Instr.indexAt, asIntOf, run_underlying hu, iX hinf, h0, hn', qF]
        · have hD : es.getD n.toNat [] = es[n.toNat] := by rw [List.getD_eq_getElem?_getD, hge]; rfl
          rw [hD]
          simp only [aR, dF]
          refine ⟨g, o + n.toNat * inf.size, (vals.drop (n.toNat * inf.size)).take inf.size, rfl, ?_, ⟨Fl.At.of hN.2 hso.1, fun hz x hx => hso.2 hz x (List.mem_flatten.2 ⟨_, List.getElem_mem hlt, hx⟩)⟩, ?_, fun j u hj => ?_⟩
          · rw [hel]; omega
          · have := (hr.drop (n.toNat * inf.size)).take inf.size
            rwa [aQR hs' hge] at this
          · rw [List.getElem?_take] at hj
            split at hj
            · rw [List.getElem?_drop] at hj
              rw [← hcl _ _ hj]
              congr 2
              omega
            · simp at hj
      · simp at hv
    · simp at hv
  · simp at hv
theorem aSq {t : TypeId} {cs : List (aC m)} {o g p : Nat} {v : (SV m)} {vals : List Value} (h : aBN P t cs o = some v) (hr : cU w F N cs vals) (hc : ∀ (j : Nat) (u : Value), vals[j]? = some u → w.cell? ⟨g, p + j, none⟩ = some u) :
    ∃ z, (Instr.loadAt t (.pointer (some ⟨g, p + o, none⟩))).run P w = .ok z w ∧ ((∃ l, v = .leaf l ∧ eB w F N l z) ∨ ∃ ls us, v = .agg ls ∧ z = .agg us ∧ cU w F N ls us.toList) := by
  unfold aBN at h
  cases hd : P.underlying t with
  | none =>
    have : kW P t = true := by simp [kW, hd]
    simp [this, dS, hd] at h
  | some d =>
    rw [aB9 hd] at h
    split at h
    · rename_i ha
      rw [Option.bind_eq_some_iff] at h
      obtain ⟨n, hn, h⟩ := h
      obtain ⟨d', i, hd', hi, rfl⟩ := nQ hn
      split at h
      · rename_i hle
        simp only [Option.some.injEq] at h
        subst h
        have hlen : ((vals.drop o).take i.size).length = i.size := by
          rw [List.length_take, List.length_drop, hr.1]; omega
        have hl := run_loadCells_list (P := P) w ⟨g, p + o, none⟩ ((vals.drop o).take i.size) (fun j v hj => by
          rw [List.getElem?_take] at hj
          split at hj
          · rw [List.getElem?_drop] at hj
            rw [qF, ← hc _ _ hj]
            congr 2
            omega
          · simp at hj)
        rw [hlen] at hl
        refine ⟨.agg ((vals.drop o).take i.size).toArray, by simp [Instr.loadAt, Instr.sureAddr, loadVar, wI hd, ha, iX hi, hl], .inr ⟨_, _, rfl, rfl, ?_⟩⟩
        simpa using (hr.drop o).take i.size
      · simp at h
    · rename_i ha
      rw [Option.map_eq_some_iff] at h
      obtain ⟨l, hl, rfl⟩ := h
      obtain ⟨z, hz, hr'⟩ := hr.get hl
      have hcz := hc _ _ hz
      refine ⟨z, ?_, .inl ⟨l, rfl, hr'⟩⟩
      have ha' : aR9 d = false := by simpa using ha
      simp [Instr.loadAt, Instr.sureAddr, loadVar, wI hd, ha', hcz]
end Go.Vs
end
