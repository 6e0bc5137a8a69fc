/- FnExactTaskNew returns true for all arguments: the program's TaskNew answers what the reference's answers. No conditions beyond the statement's own. -/
import Derived.Test.YtjommjfpjmhehaaPFnExactTaskNewx1
import Derived.Test.YtjommjfpjmhehaaBase
namespace Go.Proofs.Ytjommjfpjmhehaa.Pure
open Go.RowKit Go.Proofs.Ytjommjfpjmhehaa.PFnExactTaskNew Go.Proofs.YtjommjfpjmhehaaW.PrintWords Go.Proofs.YtjommjfpjmhehaaW.PrintLast Go.Proofs.YtjommjfpjmhehaaW.PrintMore Go.Proofs.Ytjommjfpjmhehaa.Base

theorem FnExactTaskNew : laws_FnExactTaskNew.Pure := by
  intro a b c d _ _ _ _
  simp [laws_FnExactTaskNew.f, spec_TaskNew.f, impl_TaskNew.f, laws_eqTask.f]

end Go.Proofs.Ytjommjfpjmhehaa.Pure
