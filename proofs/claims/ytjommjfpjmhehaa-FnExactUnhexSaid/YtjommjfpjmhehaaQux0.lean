-- Laid by myprint.py, a program of this session's own, over the kit's print. Not trusted: Lean checks it.
import Derived.Test.YtjommjfpjmhehaaProg
import Derived.Below
import Derived.Deep.Draws
import Derived.Deep.AppendLies
import Derived.Maps.AppendAt
import Derived.OwnWalk
import Derived.Laws.BytesArg
import Derived.Laws.MakeOwn
import Derived.Laws.OwnMore
import Derived.Deep.OwnRows
import Derived.Tactics
import Derived.Lib.ConvBytes
import Derived.Laws.Slices
import Derived.WalkKit
import Derived.KernelRfl
import Derived.RowKit3
import Derived.Deep.LoopGhost
import Derived.Deep.QuietTactic
import Derived.BigQuiet
import Derived.WideLaws
import Derived.Deep.DeepCutAuto
import Derived.Deep.CutBlock
import Derived.Deep.RegionHeld3
import Derived.Laws.Rows
import Derived.Lib.AppendStr
import Derived.ArgAppend
import Derived.Laws.IdiomCopy
import Derived.OrdersHeld
import Derived.Laws.BitsLemmas
import Derived.RowKit
import Derived.Test.YtjommjfpjmhehaaStrCmp
import Derived.Test.YtjommjfpjmhehaaShelf
import Derived.Test.YtjommjfpjmhehaaWWords
import Derived.Test.YtjommjfpjmhehaaWLast
import Derived.Test.YtjommjfpjmhehaaWTab
import Derived.Test.YtjommjfpjmhehaaWFour
import Derived.Test.YtjommjfpjmhehaaWQPut
import Derived.Test.YtjommjfpjmhehaaWApart
import Derived.Test.YtjommjfpjmhehaaWArr
import Derived.Test.YtjommjfpjmhehaaWZeros
import Derived.Test.YtjommjfpjmhehaaWFoot
import Derived.Test.YtjommjfpjmhehaaWKept
import Derived.Test.YtjommjfpjmhehaaWShare
import Derived.Test.YtjommjfpjmhehaaWN
import Derived.Test.YtjommjfpjmhehaaWFootNe
import Derived.Test.YtjommjfpjmhehaaWAt
import Derived.Test.YtjommjfpjmhehaaWEqStruct
import Derived.Test.YtjommjfpjmhehaaWRepsOne
import Derived.Test.YtjommjfpjmhehaaWInv
import Derived.Test.YtjommjfpjmhehaaWInvWords
import Derived.Test.YtjommjfpjmhehaaWGuard
import Derived.Test.YtjommjfpjmhehaaWNEv
import Derived.Test.YtjommjfpjmhehaaWMore
namespace Go.Proofs.Ytjommjfpjmhehaa.Qu
open Go.RowKit Go.Proofs.YtjommjfpjmhehaaW.PrintWords Go.Proofs.YtjommjfpjmhehaaW.PrintLast Go.Proofs.YtjommjfpjmhehaaW.PrintMore
attribute [local go_sem] Go.Proofs.Ytjommjfpjmhehaa.StrCmp.gtr_less Go.Proofs.Ytjommjfpjmhehaa.StrCmp.geq_less Go.Proofs.Ytjommjfpjmhehaa.StrCmp.leq_less max2_int min2_int max_two min_two max_three min_three max_four min_four   -- for this text's walks alone
set_option linter.unusedVariables false
set_option linter.unusedSimpArgs false



def errW : Option Int → Value
  | none => .nilIface
  | some c => .iface 0 (.int .i64 c)
theorem errW_none : errW none = .nilIface := rfl
theorem errW_some (c : Int) : errW (some c) = .iface 0 (.int .i64 c) := rfl

theorem info5 : (Try.prog.info? 5).map (fun i => (i.zero, i.size, i.bytes)) = some (some (.int .u8 0), 1, 1) := by kernel_rfl
-- the values' own types

end Go.Proofs.Ytjommjfpjmhehaa.Qu
