/- What the Go functions of the law tell, as Lean functions, each with its walk (written by wip/tools/printh.py over the kit's print). -/
import Derived.Test.YtdfmeclhpefmfaaBaK0
import Derived.Test.YtdfmeclhpefmfaaBaK1
namespace Go.Proofs.Ytdfmeclhpefmfaa.K
open Go.RowKit Go.Proofs.YtdfmeclhpefmfaaW.PrintWords Go.Proofs.YtdfmeclhpefmfaaW.PrintLast Go.Proofs.YtdfmeclhpefmfaaW.PrintMore
attribute [local go_sem] max2_int min2_int max_two min_two max_three min_three max_four min_four   -- for this text's walks alone
set_option linter.unusedVariables false
set_option linter.unusedSimpArgs false

theorem eqA42 (d : Nat) (w : World) (x0 y0 : Int) (x1 y1 : Int) (x2 y2 : Int) (x3 y3 : Int) (x4 y4 : Int) (x5 y5 : Int) (x6 y6 : Int) :
    (Op.equalIn (d + 3) 42 (.agg #[.int .i64 x0, .int .u64 x1, .int .u64 x2, .int .i64 x3, .int .u64 x4, .int .u64 x5, .int .i64 x6]) (.agg #[.int .i64 y0, .int .u64 y1, .int .u64 y2, .int .i64 y3, .int .u64 y4, .int .u64 y5, .int .i64 y6])).run Try.prog w = .ok ((x0 == y0 && (x1 == y1 && (x2 == y2))) && ((x3 == y3 && (x4 == y4 && (x5 == y5))) && (x6 == y6))) w := by
  refine eqA_of Try.underlying42 (by kernel_rfl) ?_
  refine eqf_cons (by rfl) (by go_simp) (by go_simp) (eqA40 (d + 0) w _ _ _ _ _ _) ?_
  refine eqf_cons (by rfl) (by go_simp) (by go_simp) (eqA40 (d + 0) w _ _ _ _ _ _) ?_
  exact eqf_last (by rfl) (by go_simp; rfl) (by go_simp; rfl) (by go_simp)
end Go.Proofs.Ytdfmeclhpefmfaa.K
