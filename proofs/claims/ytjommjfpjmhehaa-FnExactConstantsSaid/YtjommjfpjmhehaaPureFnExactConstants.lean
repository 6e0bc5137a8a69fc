/- FnExactConstants returns true: the program's constants are the reference's. No conditions beyond the statement's own. -/
import Derived.Test.YtjommjfpjmhehaaPFnExactConstantsx1
import Derived.Test.YtjommjfpjmhehaaBase
namespace Go.Proofs.Ytjommjfpjmhehaa.Pure
open Go.RowKit Go.Proofs.Ytjommjfpjmhehaa.PFnExactConstants Go.Proofs.YtjommjfpjmhehaaW.PrintWords Go.Proofs.YtjommjfpjmhehaaW.PrintLast Go.Proofs.YtjommjfpjmhehaaW.PrintMore Go.Proofs.Ytjommjfpjmhehaa.Base

theorem FnExactConstants : laws_FnExactConstants.Pure := rfl

end Go.Proofs.Ytjommjfpjmhehaa.Pure
