/- A piece of a function's code, by the way that leads to it; hints out of tables. -/
import Derived.Test.YtdnbagcbdagofaaVVsFast2
namespace Go.Vs
variable {m : Bool}
def sub : Code → List Nat → Code
  | c, [] => c
  | .seq a b, n :: r => if n = 0 then sub a r else sub b r
  | .cond _ a b, n :: r => if n = 0 then sub a r else sub b r
  | .block _ a, _ :: r => sub a r
  | .loop a, _ :: r => sub a r
  | c, _ => c
def bodyOf (P : Program) (f : FuncId) : Code := match P.funcs[f]? with | some fn => fn.body.getD .skip | none => .skip
def fnOf (P : Program) (f : FuncId) : Func := (P.funcs[f]?).getD default
/-- Of one function: by region the places where ownership goes along; by region the calls that take boxes along; by block what is forgotten at its loop's head. -/
structure Tab where
  mv : List (List Nat)
  boxed : List (List Nat)
  take : List (List Nat)
  clear : List (Nat × List Nat)
  drop : List (Nat × List Nat)
  after : List (List Nat)
  afterB : List (List Nat)
  condA : List (Nat × List Nat × List Nat)
  condB : List (Nat × List Nat × List Nat)
def Tab.hints (t : Tab) : Hints :=
  { nt := 0
    mv := fun r i => (t.mv.getD r []).contains i
    pure := fun r i => !(t.boxed.getD r []).contains i
    take := fun r i => (t.take.getD r []).contains i
    clear := fun b => ((t.clear.find? fun p => p.1 == b).map (·.2)).getD []
    drop := fun b => ((t.drop.find? fun p => p.1 == b).map (·.2)).getD []
    after := fun r => t.after.getD r []
    afterB := fun r => t.afterB.getD r []
    condA := fun b => ((t.condA.find? fun p => p.1 == b).map (·.2)).getD ([], [])
    condB := fun b => ((t.condB.find? fun p => p.1 == b).map (·.2)).getD ([], []) }
def noTab : Tab := ⟨[], [], [], [], [], [], [], [], []⟩
end Go.Vs
