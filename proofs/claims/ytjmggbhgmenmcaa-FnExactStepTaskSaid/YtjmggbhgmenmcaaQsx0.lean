-- Laid by myprint.py, a program of this session's own, over the kit's print. Not trusted: Lean checks it.
import Derived.Test.YtjmggbhgmenmcaaProg
import Derived.Below
import Derived.Deep.Draws
import Derived.Deep.AppendLies
import Derived.Maps.AppendAt
import Derived.OwnWalk
import Derived.Laws.BytesArg
import Derived.Laws.MakeOwn
import Derived.Laws.OwnMore
import Derived.Deep.OwnRows
import Derived.Tactics
import Derived.Lib.ConvBytes
import Derived.Laws.Slices
import Derived.WalkKit
import Derived.KernelRfl
import Derived.RowKit3
import Derived.Deep.LoopGhost
import Derived.Deep.QuietTactic
import Derived.BigQuiet
import Derived.WideLaws
import Derived.Deep.DeepCutAuto
import Derived.Deep.CutBlock
import Derived.Deep.RegionHeld3
import Derived.Laws.Rows
import Derived.Lib.AppendStr
import Derived.ArgAppend
import Derived.Laws.IdiomCopy
import Derived.OrdersHeld
import Derived.Laws.BitsLemmas
import Derived.RowKit
import Derived.Test.YtjmggbhgmenmcaaStrCmp
import Derived.Test.YtjmggbhgmenmcaaVSq
import Derived.Test.YtjmggbhgmenmcaaVWords
import Derived.Test.YtjmggbhgmenmcaaVLast
import Derived.Test.YtjmggbhgmenmcaaVTab
import Derived.Test.YtjmggbhgmenmcaaVFour
import Derived.Test.YtjmggbhgmenmcaaVQPut
import Derived.Test.YtjmggbhgmenmcaaVApart
import Derived.Test.YtjmggbhgmenmcaaVArr
import Derived.Test.YtjmggbhgmenmcaaVZeros
import Derived.Test.YtjmggbhgmenmcaaVFoot
import Derived.Test.YtjmggbhgmenmcaaVKept
import Derived.Test.YtjmggbhgmenmcaaVShare
import Derived.Test.YtjmggbhgmenmcaaVN
import Derived.Test.YtjmggbhgmenmcaaVFootNe
import Derived.Test.YtjmggbhgmenmcaaVAt
import Derived.Test.YtjmggbhgmenmcaaVEqStruct
import Derived.Test.YtjmggbhgmenmcaaVRepsOne
import Derived.Test.YtjmggbhgmenmcaaVInv
import Derived.Test.YtjmggbhgmenmcaaVInvWords
import Derived.Test.YtjmggbhgmenmcaaVGuard
import Derived.Test.YtjmggbhgmenmcaaVNEv
import Derived.Test.YtjmggbhgmenmcaaVMore
namespace Go.Proofs.Ytjmggbhgmenmcaa.Qs
open Go.RowKit Go.Proofs.YtjmggbhgmenmcaaW.PrintWords Go.Proofs.YtjmggbhgmenmcaaW.PrintLast Go.Proofs.YtjmggbhgmenmcaaW.PrintMore
attribute [local go_sem] Go.Proofs.Ytjmggbhgmenmcaa.StrCmp.gtr_less Go.Proofs.Ytjmggbhgmenmcaa.StrCmp.geq_less Go.Proofs.Ytjmggbhgmenmcaa.StrCmp.leq_less max2_int min2_int max_two min_two max_three min_three max_four min_four   -- for this text's walks alone
set_option linter.unusedVariables false
set_option linter.unusedSimpArgs false



def errW : Option Int → Value
  | none => .nilIface
  | some c => .iface 0 (.int .i64 c)
theorem errW_none : errW none = .nilIface := rfl
theorem errW_some (c : Int) : errW (some c) = .iface 0 (.int .i64 c) := rfl

theorem info3 : (Try.prog.info? 3).map (fun i => (i.zero, i.size, i.bytes)) = some (some (.int .i64 0), 1, 8) := by kernel_rfl
-- the values' own types

end Go.Proofs.Ytjmggbhgmenmcaa.Qs
