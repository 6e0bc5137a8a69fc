-- Laid by myprint.py, a program of this session's own, over the kit's print. Not trusted: Lean checks it.
import Derived.Test.YtfkhncoiifojnaaQdsx0
namespace Go.Proofs.Ytfkhncoiifojnaa.Qds
open Go.RowKit Go.Proofs.YtfkhncoiifojnaaW.PrintWords Go.Proofs.YtfkhncoiifojnaaW.PrintLast Go.Proofs.YtfkhncoiifojnaaW.PrintMore
attribute [local go_sem] Go.Proofs.Ytfkhncoiifojnaa.StrCmp.gtr_less Go.Proofs.Ytfkhncoiifojnaa.StrCmp.geq_less Go.Proofs.Ytfkhncoiifojnaa.StrCmp.leq_less max2_int min2_int max_two min_two max_three min_three max_four min_four   -- for this text's walks alone
set_option linter.unusedVariables false
set_option linter.unusedSimpArgs false

theorem eqA71 (d : Nat) (w : World) (x0 y0 : Int) (x1 y1 : Int) :
    (Op.equalIn (d + 2) 71 (.agg #[.int .i64 x0, .int .i64 x1]) (.agg #[.int .i64 y0, .int .i64 y1])).run Try.prog w = .ok (x0 == y0 && (x1 == y1)) w := by
  refine eqA_of Try.underlying71 (by kernel_rfl) ?_
  refine eqf_cons (by rfl) (by go_simp; rfl) (by go_simp; rfl) (by go_simp) ?_
  exact eqf_last (by rfl) (by go_simp; rfl) (by go_simp; rfl) (by go_simp)
end Go.Proofs.Ytfkhncoiifojnaa.Qds
