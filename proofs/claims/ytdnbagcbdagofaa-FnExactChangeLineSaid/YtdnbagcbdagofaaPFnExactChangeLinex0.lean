-- PRINTED BY print.sh 35421559b90ae4d0a3588c463048766b98c2df88dd9212a6774a882060cdf62d: not written by this session
import Derived.Test.YtdnbagcbdagofaaProg
import Derived.Below
import Derived.Deep.Draws
import Derived.Deep.AppendLies
import Derived.Maps.AppendAt
import Derived.OwnWalk
import Derived.Laws.BytesArg
import Derived.Laws.MakeOwn
import Derived.Laws.OwnMore
import Derived.Deep.OwnRows
import Derived.Tactics
import Derived.Lib.ConvBytes
import Derived.Laws.Slices
import Derived.WalkKit
import Derived.KernelRfl
import Derived.RowKit3
import Derived.Deep.LoopGhost
import Derived.Deep.QuietTactic
import Derived.BigQuiet
import Derived.WideLaws
import Derived.Deep.DeepCutAuto
import Derived.Deep.CutBlock
import Derived.Deep.RegionHeld3
import Derived.Laws.Rows
import Derived.Lib.AppendStr
import Derived.ArgAppend
import Derived.Laws.IdiomCopy
import Derived.OrdersHeld
import Derived.Laws.BitsLemmas
import Derived.RowKit
import Derived.Test.YtdnbagcbdagofaaWWords
import Derived.Test.YtdnbagcbdagofaaWLast
import Derived.Test.YtdnbagcbdagofaaWTab
import Derived.Test.YtdnbagcbdagofaaWFour
import Derived.Test.YtdnbagcbdagofaaWQPut
import Derived.Test.YtdnbagcbdagofaaWApart
import Derived.Test.YtdnbagcbdagofaaWArr
import Derived.Test.YtdnbagcbdagofaaWZeros
import Derived.Test.YtdnbagcbdagofaaWFoot
import Derived.Test.YtdnbagcbdagofaaWKept
import Derived.Test.YtdnbagcbdagofaaWShare
import Derived.Test.YtdnbagcbdagofaaWN
import Derived.Test.YtdnbagcbdagofaaWFootNe
import Derived.Test.YtdnbagcbdagofaaWAt
import Derived.Test.YtdnbagcbdagofaaWEqStruct
import Derived.Test.YtdnbagcbdagofaaWRepsOne
import Derived.Test.YtdnbagcbdagofaaWInv
import Derived.Test.YtdnbagcbdagofaaWInvWords
import Derived.Test.YtdnbagcbdagofaaWGuard
import Derived.Test.YtdnbagcbdagofaaWNEv
import Derived.Test.YtdnbagcbdagofaaWMore
namespace Go.Proofs.Ytdnbagcbdagofaa.PFnExactChangeLine
open Go.RowKit Go.Proofs.YtdnbagcbdagofaaW.PrintWords Go.Proofs.YtdnbagcbdagofaaW.PrintLast Go.Proofs.YtdnbagcbdagofaaW.PrintMore
attribute [local go_sem] max2_int min2_int max_two min_two max_three min_three max_four min_four   -- for this text's walks alone
set_option linter.unusedVariables false
set_option linter.unusedSimpArgs false



def errW : Option Int → Value
  | none => .nilIface
  | some c => .iface 0 (.int .i64 c)
theorem errW_none : errW none = .nilIface := rfl
theorem errW_some (c : Int) : errW (some c) = .iface 0 (.int .i64 c) := rfl

theorem info9 : (Try.prog.info? 9).map (fun i => (i.zero, i.size, i.bytes)) = some (some (.string ⟨#[]⟩), 1, 16) := by kernel_rfl
-- the values' own types

end Go.Proofs.Ytdnbagcbdagofaa.PFnExactChangeLine
