/- What the Go functions of the law tell, as Lean functions, each with its walk (written by wip/tools/printh.py over the kit's print). -/
import Derived.Test.YtdfmeclhpefmfaaBaK0
namespace Go.Proofs.Ytdfmeclhpefmfaa.K
open Go.RowKit Go.Proofs.YtdfmeclhpefmfaaW.PrintWords Go.Proofs.YtdfmeclhpefmfaaW.PrintLast Go.Proofs.YtdfmeclhpefmfaaW.PrintMore
attribute [local go_sem] max2_int min2_int max_two min_two max_three min_three max_four min_four   -- for this text's walks alone
set_option linter.unusedVariables false
set_option linter.unusedSimpArgs false

theorem eqA40 (d : Nat) (w : World) (x0 y0 : Int) (x1 y1 : Int) (x2 y2 : Int) :
    (Op.equalIn (d + 2) 40 (.agg #[.int .i64 x0, .int .u64 x1, .int .u64 x2]) (.agg #[.int .i64 y0, .int .u64 y1, .int .u64 y2])).run Try.prog w = .ok (x0 == y0 && (x1 == y1 && (x2 == y2))) w := by
  refine eqA_of Try.underlying40 (by kernel_rfl) ?_
  refine eqf_cons (by rfl) (by go_simp; rfl) (by go_simp; rfl) (by go_simp) ?_
  refine eqf_cons (by rfl) (by go_simp; rfl) (by go_simp; rfl) (by go_simp) ?_
  exact eqf_last (by rfl) (by go_simp; rfl) (by go_simp; rfl) (by go_simp)
end Go.Proofs.Ytdfmeclhpefmfaa.K
