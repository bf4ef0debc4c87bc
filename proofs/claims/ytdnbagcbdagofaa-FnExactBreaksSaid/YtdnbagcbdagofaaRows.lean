/-
  No cell of these rows narrows 'for every input' (looked for: loops, veiled, ifaces, maps, wideKeys, modest, calm, conditions, laid).
  DERIVED. THE GIVEN ROWS OF THIS SEAT. 5 by the template 'for every input the law returns true; each argument reads behind the call as it read before'; 0 by the template 'total and deterministic' (their statements: YtdnbagcbdagofaaTotals.lean).
  GIVEN WITH THE SEED: the statements are not yours to turn. If you find one false, say at which input.
  Laid BY PROGRAM, IN A SANDBOX (cutbox-rows.mjs): the forced cells as the released guide's own fill.sh prints them over the translation c4fbc1f23005880f… (all of the seat's roots in one cut). By AI agents, Wed Nov 11 2026. No macro, syntax, notation, axiom, sorry.
-/
import Derived.Test.YtdnbagcbdagofaaChecked
import GoSem.Claim
import GoSem.ClaimJoined
import GoSem.ClaimMapViews
import Derived.JoinedTies
import Derived.KernelRfl
namespace Go.Proofs.Ytdnbagcbdagofaa
/- THE CELL 'sum', in the pinned program and in every row, IS THE sha256 OF THE DUMP (.gsa) THAT YtdnbagcbdagofaaProg.lean LOADS. Nothing in Lean hashes anything: it is a label: what it is worth is what the hold of that sum in a sandbox is worth. -/
noncomputable def Try.pinned : Pinned := { name := "ytdnbagcbdagofaa", sum := "c4fbc1f23005880f9a2b7a6abed512cc1295539e06d4bfd872e9e204444f071e", checked := Try.checked }
namespace Rows
def none {H : Type} : Left H := { results := [], args := [] }

/-- 'laws.FnExactCodeWord': WHATEVER THE INPUT: true; the input reads as it did. -/
def fnExactCodeWordSpec : ChangeSpec := { name := "fnExactCodeWord", fn := fun _ => fun
  | [d] => { results := [.lit (.bool true)], args := [d] }
  | _ => none }
def fnExactCodeWordRow : OpenClaim := { program := "ytdnbagcbdagofaa", sum := "c4fbc1f23005880f9a2b7a6abed512cc1295539e06d4bfd872e9e204444f071e", func := "loop.example/g00964/laws.FnExactCodeWord", spec := "fnExactCodeWord", apart := false }
def FnExactCodeWordSaid : Prop := fnExactCodeWordRow.holds Try.pinned (OpenSpec.ofChange fnExactCodeWordSpec)

/-- ITS FALSE NEIGHBOUR: 'it returns false'. Refute it at one input. -/
def fnExactCodeWordWrong : ChangeSpec := { name := "fnExactCodeWord", fn := fun _ => fun
  | [d] => { results := [.lit (.bool false)], args := [d] }
  | _ => none }
def FnExactCodeWordWrongFalsely : Prop := fnExactCodeWordRow.holds Try.pinned (OpenSpec.ofChange fnExactCodeWordWrong)

/-- 'laws.FnExactClassOf': WHATEVER THE INPUT: true; the input reads as it did. -/
def fnExactClassOfSpec : ChangeSpec := { name := "fnExactClassOf", fn := fun _ => fun
  | [d] => { results := [.lit (.bool true)], args := [d] }
  | _ => none }
def fnExactClassOfRow : OpenClaim := { program := "ytdnbagcbdagofaa", sum := "c4fbc1f23005880f9a2b7a6abed512cc1295539e06d4bfd872e9e204444f071e", func := "loop.example/g00964/laws.FnExactClassOf", spec := "fnExactClassOf", apart := false }
def FnExactClassOfSaid : Prop := fnExactClassOfRow.holds Try.pinned (OpenSpec.ofChange fnExactClassOfSpec)

/-- ITS FALSE NEIGHBOUR: 'it returns false'. Refute it at one input. -/
def fnExactClassOfWrong : ChangeSpec := { name := "fnExactClassOf", fn := fun _ => fun
  | [d] => { results := [.lit (.bool false)], args := [d] }
  | _ => none }
def FnExactClassOfWrongFalsely : Prop := fnExactClassOfRow.holds Try.pinned (OpenSpec.ofChange fnExactClassOfWrong)

/-- 'laws.FnExactChangeLine': WHATEVER THE INPUT: true; the input reads as it did. -/
def fnExactChangeLineSpec : ChangeSpec := { name := "fnExactChangeLine", fn := fun _ => fun
  | [d] => { results := [.lit (.bool true)], args := [d] }
  | _ => none }
def fnExactChangeLineRow : OpenClaim := { program := "ytdnbagcbdagofaa", sum := "c4fbc1f23005880f9a2b7a6abed512cc1295539e06d4bfd872e9e204444f071e", func := "loop.example/g00964/laws.FnExactChangeLine", spec := "fnExactChangeLine", apart := false }
def FnExactChangeLineSaid : Prop := fnExactChangeLineRow.holds Try.pinned (OpenSpec.ofChange fnExactChangeLineSpec)

/-- ITS FALSE NEIGHBOUR: 'it returns false'. Refute it at one input. -/
def fnExactChangeLineWrong : ChangeSpec := { name := "fnExactChangeLine", fn := fun _ => fun
  | [d] => { results := [.lit (.bool false)], args := [d] }
  | _ => none }
def FnExactChangeLineWrongFalsely : Prop := fnExactChangeLineRow.holds Try.pinned (OpenSpec.ofChange fnExactChangeLineWrong)

/-- 'laws.FnExactBreaks': WHATEVER THE INPUT: true; the input reads as it did. -/
def fnExactBreaksSpec : ChangeSpec := { name := "fnExactBreaks", fn := fun _ => fun
  | [d] => { results := [.lit (.bool true)], args := [d] }
  | _ => none }
def fnExactBreaksRow : OpenClaim := { program := "ytdnbagcbdagofaa", sum := "c4fbc1f23005880f9a2b7a6abed512cc1295539e06d4bfd872e9e204444f071e", func := "loop.example/g00964/laws.FnExactBreaks", spec := "fnExactBreaks", unfollowed := true, recurses := true, apart := false }
def FnExactBreaksSaid : Prop := fnExactBreaksRow.holds Try.pinned (OpenSpec.ofChange fnExactBreaksSpec)

/-- ITS FALSE NEIGHBOUR: 'it returns false'. Refute it at one input. -/
def fnExactBreaksWrong : ChangeSpec := { name := "fnExactBreaks", fn := fun _ => fun
  | [d] => { results := [.lit (.bool false)], args := [d] }
  | _ => none }
def FnExactBreaksWrongFalsely : Prop := fnExactBreaksRow.holds Try.pinned (OpenSpec.ofChange fnExactBreaksWrong)

/-- 'laws.FnExactOfClass': WHATEVER THE INPUT: true; the input reads as it did. -/
def fnExactOfClassSpec : ChangeSpec := { name := "fnExactOfClass", fn := fun _ => fun
  | [d1, d2] => { results := [.lit (.bool true)], args := [d1, d2] }
  | _ => none }
def fnExactOfClassRow : OpenClaim := { program := "ytdnbagcbdagofaa", sum := "c4fbc1f23005880f9a2b7a6abed512cc1295539e06d4bfd872e9e204444f071e", func := "loop.example/g00964/laws.FnExactOfClass", spec := "fnExactOfClass", unfollowed := true, recurses := true, apart := false }
def FnExactOfClassSaid : Prop := fnExactOfClassRow.holds Try.pinned (OpenSpec.ofChange fnExactOfClassSpec)

/-- ITS FALSE NEIGHBOUR: 'it returns false'. Refute it at one input. -/
def fnExactOfClassWrong : ChangeSpec := { name := "fnExactOfClass", fn := fun _ => fun
  | [d1, d2] => { results := [.lit (.bool false)], args := [d1, d2] }
  | _ => none }
def FnExactOfClassWrongFalsely : Prop := fnExactOfClassRow.holds Try.pinned (OpenSpec.ofChange fnExactOfClassWrong)

/- THE SECOND FORM. 'bulk': how many values and letters a reading holds, each counted each time it is reached (what is shared counts as often as it is met; a slice's spare places count too). A statement '..UptoSaid' is the law's where the arguments, and the package variables that the reading takes, are together of bulk at most 1048576: NARROWER than '..Said'. Prove '..Said' where nothing that the law and all that it calls make is longer than what came in: it says more and counts as full. Else prove '..UptoSaid'. A law counts once. -/
mutual
def uptoBulk {H : Type} : DataW H → Nat
  | .lit (.string bytes) => bytes.length + 1
  | .lit _ => 1
  | .nil => 1
  | .ptr d => uptoBulk d + 1
  | .slice elems spare => uptoBulkAll elems + uptoBulkAll spare + 1
  | .agg parts => uptoBulkAll parts + 1
  | .iface _ d => uptoBulk d + 1
  | .map entries => uptoBulkEntries entries + 1
  | .held _ => 1
def uptoBulkAll {H : Type} : List (DataW H) → Nat
  | [] => 0
  | d :: r => uptoBulk d + uptoBulkAll r
def uptoBulkEntries {H : Type} : List (Lit × DataW H) → Nat
  | [] => 0
  | x :: r => uptoBulkEntry x + uptoBulkEntries r
def uptoBulkEntry {H : Type} : Lit × DataW H → Nat
  | (.string bytes, d) => bytes.length + uptoBulk d + 1
  | (_, d) => uptoBulk d + 1
 end
def uptoSmall : (H : Type) → List (DataW H) → Bool := fun _ ds => decide (uptoBulkAll ds ≤ 1048576)
def OpenSpec.upto (s : _root_.Go.ChangeSpec) : _root_.Go.OpenSpec := { _root_.Go.OpenSpec.ofChange s with cond := some uptoSmall }

/-- 'laws.FnExactCodeWord', WHERE WHAT IT READS IS OF BULK AT MOST 1048576: true; the input reads as it did. -/
def fnExactCodeWordUptoRow : OpenClaim := { program := "ytdnbagcbdagofaa", sum := "c4fbc1f23005880f9a2b7a6abed512cc1295539e06d4bfd872e9e204444f071e", func := "loop.example/g00964/laws.FnExactCodeWord", spec := "fnExactCodeWord", apart := false, narrowed := true }
def FnExactCodeWordUptoSaid : Prop := fnExactCodeWordUptoRow.holds Try.pinned (OpenSpec.upto fnExactCodeWordSpec)

/-- 'laws.FnExactClassOf', WHERE WHAT IT READS IS OF BULK AT MOST 1048576: true; the input reads as it did. -/
def fnExactClassOfUptoRow : OpenClaim := { program := "ytdnbagcbdagofaa", sum := "c4fbc1f23005880f9a2b7a6abed512cc1295539e06d4bfd872e9e204444f071e", func := "loop.example/g00964/laws.FnExactClassOf", spec := "fnExactClassOf", apart := false, narrowed := true }
def FnExactClassOfUptoSaid : Prop := fnExactClassOfUptoRow.holds Try.pinned (OpenSpec.upto fnExactClassOfSpec)

/-- 'laws.FnExactChangeLine', WHERE WHAT IT READS IS OF BULK AT MOST 1048576: true; the input reads as it did. -/
def fnExactChangeLineUptoRow : OpenClaim := { program := "ytdnbagcbdagofaa", sum := "c4fbc1f23005880f9a2b7a6abed512cc1295539e06d4bfd872e9e204444f071e", func := "loop.example/g00964/laws.FnExactChangeLine", spec := "fnExactChangeLine", apart := false, narrowed := true }
def FnExactChangeLineUptoSaid : Prop := fnExactChangeLineUptoRow.holds Try.pinned (OpenSpec.upto fnExactChangeLineSpec)

/-- 'laws.FnExactBreaks', WHERE WHAT IT READS IS OF BULK AT MOST 1048576: true; the input reads as it did. -/
def fnExactBreaksUptoRow : OpenClaim := { program := "ytdnbagcbdagofaa", sum := "c4fbc1f23005880f9a2b7a6abed512cc1295539e06d4bfd872e9e204444f071e", func := "loop.example/g00964/laws.FnExactBreaks", spec := "fnExactBreaks", unfollowed := true, recurses := true, apart := false, narrowed := true }
def FnExactBreaksUptoSaid : Prop := fnExactBreaksUptoRow.holds Try.pinned (OpenSpec.upto fnExactBreaksSpec)

/-- 'laws.FnExactOfClass', WHERE WHAT IT READS IS OF BULK AT MOST 1048576: true; the input reads as it did. -/
def fnExactOfClassUptoRow : OpenClaim := { program := "ytdnbagcbdagofaa", sum := "c4fbc1f23005880f9a2b7a6abed512cc1295539e06d4bfd872e9e204444f071e", func := "loop.example/g00964/laws.FnExactOfClass", spec := "fnExactOfClass", unfollowed := true, recurses := true, apart := false, narrowed := true }
def FnExactOfClassUptoSaid : Prop := fnExactOfClassUptoRow.holds Try.pinned (OpenSpec.upto fnExactOfClassSpec)

end Rows
end Go.Proofs.Ytdnbagcbdagofaa
