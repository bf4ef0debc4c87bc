/-
  NARROWER THAN 'FOR EVERY INPUT', by the rows' own cells (each row's printed sentence says how): FnExactInChanges: loops.
  DERIVED. THE GIVEN ROWS OF THIS SEAT. 2 by the template 'for every input the law returns true; each argument reads behind the call as it read before'; 0 by the template 'total and deterministic' (their statements: YtingdapimncjjaaTotals.lean).
  GIVEN WITH THE SEED: the statements are not yours to turn. If you find one false, say at which input.
  Laid BY PROGRAM, IN A SANDBOX (cutbox-rows.mjs): the forced cells as the released guide's own fill.sh prints them over the translation 853a6326beebbb51… (all of the seat's roots in one cut). By AI agents, Wed Nov 11 2026. No macro, syntax, notation, axiom, sorry.
-/
import Derived.Test.YtingdapimncjjaaChecked
import GoSem.Claim
import GoSem.ClaimJoined
import GoSem.ClaimMapViews
import Derived.JoinedTies
import Derived.KernelRfl
namespace Go.Proofs.Ytingdapimncjjaa
/- THE CELL 'sum', in the pinned program and in every row, IS THE sha256 OF THE DUMP (.gsa) THAT YtingdapimncjjaaProg.lean LOADS. Nothing in Lean hashes anything: it is a label: what it is worth is what the hold of that sum in a sandbox is worth. -/
noncomputable def Try.pinned : Pinned := { name := "ytingdapimncjjaa", sum := "853a6326beebbb511a5f9b6881bb9fc15e15c6d765c1a9f1b443b0bc28d4edcb", checked := Try.checked }
namespace Rows
def none {H : Type} : Left H := { results := [], args := [] }

/-- 'laws.FnExactOfClass': WHATEVER THE INPUT: true; the input reads as it did. -/
def fnExactOfClassSpec : ChangeSpec := { name := "fnExactOfClass", fn := fun _ => fun
  | [d1, d2] => { results := [.lit (.bool true)], args := [d1, d2] }
  | _ => none }
def fnExactOfClassRow : OpenClaim := { program := "ytingdapimncjjaa", sum := "853a6326beebbb511a5f9b6881bb9fc15e15c6d765c1a9f1b443b0bc28d4edcb", func := "loop.example/g00964/laws.FnExactOfClass", spec := "fnExactOfClass", unfollowed := true, recurses := true, apart := false }
def FnExactOfClassSaid : Prop := fnExactOfClassRow.holds Try.pinned (OpenSpec.ofChange fnExactOfClassSpec)

/-- ITS FALSE NEIGHBOUR: 'it returns false'. Refute it at one input. -/
def fnExactOfClassWrong : ChangeSpec := { name := "fnExactOfClass", fn := fun _ => fun
  | [d1, d2] => { results := [.lit (.bool false)], args := [d1, d2] }
  | _ => none }
def FnExactOfClassWrongFalsely : Prop := fnExactOfClassRow.holds Try.pinned (OpenSpec.ofChange fnExactOfClassWrong)

/-- 'laws.FnExactInChanges': WHATEVER THE INPUT: true; the input reads as it did. -/
def fnExactInChangesSpec : ChangeSpec := { name := "fnExactInChanges", fn := fun _ => fun
  | [d1, d2, d3] => { results := [.lit (.bool true)], args := [d1, d2, d3] }
  | _ => none }
def fnExactInChangesRow : OpenClaim := { program := "ytingdapimncjjaa", sum := "853a6326beebbb511a5f9b6881bb9fc15e15c6d765c1a9f1b443b0bc28d4edcb", func := "loop.example/g00964/laws.FnExactInChanges", spec := "fnExactInChanges", unfollowed := true, recurses := true, loops := true, apart := false }
def FnExactInChangesSaid : Prop := fnExactInChangesRow.holds Try.pinned (OpenSpec.ofChange fnExactInChangesSpec)

/-- ITS FALSE NEIGHBOUR: 'it returns false'. Refute it at one input. -/
def fnExactInChangesWrong : ChangeSpec := { name := "fnExactInChanges", fn := fun _ => fun
  | [d1, d2, d3] => { results := [.lit (.bool false)], args := [d1, d2, d3] }
  | _ => none }
def FnExactInChangesWrongFalsely : Prop := fnExactInChangesRow.holds Try.pinned (OpenSpec.ofChange fnExactInChangesWrong)

/- THE SECOND FORM. 'bulk': how many values and letters a reading holds, each counted each time it is reached (what is shared counts as often as it is met; a slice's spare places count too). A statement '..UptoSaid' is the law's where the arguments, and the package variables that the reading takes, are together of bulk at most 1048576: NARROWER than '..Said'. Prove '..Said' where nothing that the law and all that it calls make is longer than what came in: it says more and counts as full. Else prove '..UptoSaid'. A law counts once. -/
mutual
def uptoBulk {H : Type} : DataW H → Nat
  | .lit (.string bytes) => bytes.length + 1
  | .lit _ => 1
  | .nil => 1
  | .ptr d => uptoBulk d + 1
  | .slice elems spare => uptoBulkAll elems + uptoBulkAll spare + 1
  | .agg parts => uptoBulkAll parts + 1
  | .iface _ d => uptoBulk d + 1
  | .map entries => uptoBulkEntries entries + 1
  | .held _ => 1
def uptoBulkAll {H : Type} : List (DataW H) → Nat
  | [] => 0
  | d :: r => uptoBulk d + uptoBulkAll r
def uptoBulkEntries {H : Type} : List (Lit × DataW H) → Nat
  | [] => 0
  | x :: r => uptoBulkEntry x + uptoBulkEntries r
def uptoBulkEntry {H : Type} : Lit × DataW H → Nat
  | (.string bytes, d) => bytes.length + uptoBulk d + 1
  | (_, d) => uptoBulk d + 1
 end
def uptoSmall : (H : Type) → List (DataW H) → Bool := fun _ ds => decide (uptoBulkAll ds ≤ 1048576)
def OpenSpec.upto (s : _root_.Go.ChangeSpec) : _root_.Go.OpenSpec := { _root_.Go.OpenSpec.ofChange s with cond := some uptoSmall }

/-- 'laws.FnExactOfClass', WHERE WHAT IT READS IS OF BULK AT MOST 1048576: true; the input reads as it did. -/
def fnExactOfClassUptoRow : OpenClaim := { program := "ytingdapimncjjaa", sum := "853a6326beebbb511a5f9b6881bb9fc15e15c6d765c1a9f1b443b0bc28d4edcb", func := "loop.example/g00964/laws.FnExactOfClass", spec := "fnExactOfClass", unfollowed := true, recurses := true, apart := false, narrowed := true }
def FnExactOfClassUptoSaid : Prop := fnExactOfClassUptoRow.holds Try.pinned (OpenSpec.upto fnExactOfClassSpec)

/-- 'laws.FnExactInChanges', WHERE WHAT IT READS IS OF BULK AT MOST 1048576: true; the input reads as it did. -/
def fnExactInChangesUptoRow : OpenClaim := { program := "ytingdapimncjjaa", sum := "853a6326beebbb511a5f9b6881bb9fc15e15c6d765c1a9f1b443b0bc28d4edcb", func := "loop.example/g00964/laws.FnExactInChanges", spec := "fnExactInChanges", unfollowed := true, recurses := true, loops := true, apart := false, narrowed := true }
def FnExactInChangesUptoSaid : Prop := fnExactInChangesUptoRow.holds Try.pinned (OpenSpec.upto fnExactInChangesSpec)

end Rows
end Go.Proofs.Ytingdapimncjjaa
