-- Laid by myprint.py, a program of this session's own, over the kit's print. Not trusted: Lean checks it.
import Derived.Test.YtmmpjeadjfamfaaDoorQdrx0
import Derived.Test.YtmmpjeadjfamfaaDoorQdrx1
namespace Go.Proofs.YtmmpjeadjfamfaaDoor.Qdr
open Go.RowKit Go.Proofs.YtmmpjeadjfamfaaDoorW.PrintWords Go.Proofs.YtmmpjeadjfamfaaDoorW.PrintLast Go.Proofs.YtmmpjeadjfamfaaDoorW.PrintMore
attribute [local go_sem] Go.Proofs.YtmmpjeadjfamfaaDoor.StrCmp.gtr_less Go.Proofs.YtmmpjeadjfamfaaDoor.StrCmp.geq_less Go.Proofs.YtmmpjeadjfamfaaDoor.StrCmp.leq_less max2_int min2_int max_two min_two max_three min_three max_four min_four   -- for this text's walks alone
set_option linter.unusedVariables false
set_option linter.unusedSimpArgs false

end Go.Proofs.YtmmpjeadjfamfaaDoor.Qdr
