-- Laid by myprint.py, a program of this session's own, over the kit's print. Not trusted: Lean checks it.
import Derived.Test.YtmmpjeadjfamfaaDoorProg
import Derived.Below
import Derived.Deep.Draws
import Derived.Deep.AppendLies
import Derived.Maps.AppendAt
import Derived.OwnWalk
import Derived.Laws.BytesArg
import Derived.Laws.MakeOwn
import Derived.Laws.OwnMore
import Derived.Deep.OwnRows
import Derived.Tactics
import Derived.Lib.ConvBytes
import Derived.Laws.Slices
import Derived.WalkKit
import Derived.KernelRfl
import Derived.RowKit3
import Derived.Deep.LoopGhost
import Derived.Deep.QuietTactic
import Derived.BigQuiet
import Derived.WideLaws
import Derived.Deep.DeepCutAuto
import Derived.Deep.CutBlock
import Derived.Deep.RegionHeld3
import Derived.Laws.Rows
import Derived.Lib.AppendStr
import Derived.ArgAppend
import Derived.Laws.IdiomCopy
import Derived.OrdersHeld
import Derived.Laws.BitsLemmas
import Derived.RowKit
import Derived.Test.YtmmpjeadjfamfaaDoorStrCmp
import Derived.Test.YtmmpjeadjfamfaaDoorSq
import Derived.Test.YtmmpjeadjfamfaaDoorShIt
import Derived.Test.YtmmpjeadjfamfaaDoorShAt
import Derived.Test.YtmmpjeadjfamfaaDoorShIx
import Derived.Test.YtmmpjeadjfamfaaDoorRdI
import Derived.Lib.LaidTab
import Derived.Lib.AppendIntMem
import Derived.Lib.AtoiAllCases
import Derived.Test.YtmmpjeadjfamfaaDoorWWords
import Derived.Test.YtmmpjeadjfamfaaDoorWLast
import Derived.Test.YtmmpjeadjfamfaaDoorWTab
import Derived.Test.YtmmpjeadjfamfaaDoorWFour
import Derived.Test.YtmmpjeadjfamfaaDoorWQPut
import Derived.Test.YtmmpjeadjfamfaaDoorWApart
import Derived.Test.YtmmpjeadjfamfaaDoorWArr
import Derived.Test.YtmmpjeadjfamfaaDoorWZeros
import Derived.Test.YtmmpjeadjfamfaaDoorWFoot
import Derived.Test.YtmmpjeadjfamfaaDoorWKept
import Derived.Test.YtmmpjeadjfamfaaDoorWShare
import Derived.Test.YtmmpjeadjfamfaaDoorWN
import Derived.Test.YtmmpjeadjfamfaaDoorWFootNe
import Derived.Test.YtmmpjeadjfamfaaDoorWAt
import Derived.Test.YtmmpjeadjfamfaaDoorWEqStruct
import Derived.Test.YtmmpjeadjfamfaaDoorWRepsOne
import Derived.Test.YtmmpjeadjfamfaaDoorWInv
import Derived.Test.YtmmpjeadjfamfaaDoorWInvWords
import Derived.Test.YtmmpjeadjfamfaaDoorWGuard
import Derived.Test.YtmmpjeadjfamfaaDoorWNEv
import Derived.Test.YtmmpjeadjfamfaaDoorWMore
namespace Go.Proofs.YtmmpjeadjfamfaaDoor.Qdn
open Go.RowKit Go.Proofs.YtmmpjeadjfamfaaDoorW.PrintWords Go.Proofs.YtmmpjeadjfamfaaDoorW.PrintLast Go.Proofs.YtmmpjeadjfamfaaDoorW.PrintMore
attribute [local go_sem] Go.Proofs.YtmmpjeadjfamfaaDoor.StrCmp.gtr_less Go.Proofs.YtmmpjeadjfamfaaDoor.StrCmp.geq_less Go.Proofs.YtmmpjeadjfamfaaDoor.StrCmp.leq_less max2_int min2_int max_two min_two max_three min_three max_four min_four   -- for this text's walks alone
set_option linter.unusedVariables false
set_option linter.unusedSimpArgs false



def errW : Option Int → Value
  | none => .nilIface
  | some c => .iface 0 (.int .i64 c)
theorem errW_none : errW none = .nilIface := rfl
theorem errW_some (c : Int) : errW (some c) = .iface 0 (.int .i64 c) := rfl

theorem info3 : (Tryd.prog.info? 3).map (fun i => (i.zero, i.size, i.bytes)) = some (some (.int .i64 0), 1, 8) := by kernel_rfl
theorem info5 : (Tryd.prog.info? 5).map (fun i => (i.zero, i.size, i.bytes)) = some (some (.int .u8 0), 1, 1) := by kernel_rfl
-- the values' own types

end Go.Proofs.YtmmpjeadjfamfaaDoor.Qdn
