-- Laid by myprint.py, a program of this session's own, over the kit's print. Not trusted: Lean checks it.
import Derived.Test.YtmmpjeadjfamfaaProg
import Derived.Below
import Derived.Deep.Draws
import Derived.Deep.AppendLies
import Derived.Maps.AppendAt
import Derived.OwnWalk
import Derived.Laws.BytesArg
import Derived.Laws.MakeOwn
import Derived.Laws.OwnMore
import Derived.Deep.OwnRows
import Derived.Tactics
import Derived.Lib.ConvBytes
import Derived.Laws.Slices
import Derived.WalkKit
import Derived.KernelRfl
import Derived.RowKit3
import Derived.Deep.LoopGhost
import Derived.Deep.QuietTactic
import Derived.BigQuiet
import Derived.WideLaws
import Derived.Deep.DeepCutAuto
import Derived.Deep.CutBlock
import Derived.Deep.RegionHeld3
import Derived.Laws.Rows
import Derived.Lib.AppendStr
import Derived.ArgAppend
import Derived.Laws.IdiomCopy
import Derived.OrdersHeld
import Derived.Laws.BitsLemmas
import Derived.RowKit
import Derived.Test.YtmmpjeadjfamfaaStrCmp
import Derived.Test.YtmmpjeadjfamfaaTurned
import Derived.Test.YtmmpjeadjfamfaaWWords
import Derived.Test.YtmmpjeadjfamfaaWLast
import Derived.Test.YtmmpjeadjfamfaaWTab
import Derived.Test.YtmmpjeadjfamfaaWFour
import Derived.Test.YtmmpjeadjfamfaaWQPut
import Derived.Test.YtmmpjeadjfamfaaWApart
import Derived.Test.YtmmpjeadjfamfaaWArr
import Derived.Test.YtmmpjeadjfamfaaWZeros
import Derived.Test.YtmmpjeadjfamfaaWFoot
import Derived.Test.YtmmpjeadjfamfaaWKept
import Derived.Test.YtmmpjeadjfamfaaWShare
import Derived.Test.YtmmpjeadjfamfaaWN
import Derived.Test.YtmmpjeadjfamfaaWFootNe
import Derived.Test.YtmmpjeadjfamfaaWAt
import Derived.Test.YtmmpjeadjfamfaaWEqStruct
import Derived.Test.YtmmpjeadjfamfaaWRepsOne
import Derived.Test.YtmmpjeadjfamfaaWInv
import Derived.Test.YtmmpjeadjfamfaaWInvWords
import Derived.Test.YtmmpjeadjfamfaaWGuard
import Derived.Test.YtmmpjeadjfamfaaWNEv
import Derived.Test.YtmmpjeadjfamfaaWMore
namespace Go.Proofs.Ytmmpjeadjfamfaa.Qft
open Go.RowKit Go.Proofs.YtmmpjeadjfamfaaW.PrintWords Go.Proofs.YtmmpjeadjfamfaaW.PrintLast Go.Proofs.YtmmpjeadjfamfaaW.PrintMore
attribute [local go_sem] Go.Proofs.Ytmmpjeadjfamfaa.StrCmp.gtr_less Go.Proofs.Ytmmpjeadjfamfaa.StrCmp.geq_less Go.Proofs.Ytmmpjeadjfamfaa.StrCmp.leq_less max2_int min2_int max_two min_two max_three min_three max_four min_four   -- for this text's walks alone
set_option linter.unusedVariables false
set_option linter.unusedSimpArgs false



def errW : Option Int → Value
  | none => .nilIface
  | some c => .iface 0 (.int .i64 c)
theorem errW_none : errW none = .nilIface := rfl
theorem errW_some (c : Int) : errW (some c) = .iface 0 (.int .i64 c) := rfl

theorem info3 : (Try.prog.info? 3).map (fun i => (i.zero, i.size, i.bytes)) = some (some (.int .i64 0), 1, 8) := by kernel_rfl
theorem info5 : (Try.prog.info? 5).map (fun i => (i.zero, i.size, i.bytes)) = some (some (.int .u8 0), 1, 1) := by kernel_rfl
-- the values' own types

end Go.Proofs.Ytmmpjeadjfamfaa.Qft
