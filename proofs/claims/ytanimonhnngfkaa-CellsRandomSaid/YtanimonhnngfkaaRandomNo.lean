/-
  cells.Random, of any width.
-/
import Derived.Test.YtanimonhnngfkaaRandom
set_option linter.unusedVariables false
set_option linter.unusedSimpArgs false
namespace Go.Proofs.Ytanimonhnngfkaa
open Go.RowKit

set_option maxRecDepth 100000 in
set_option maxHeartbeats 800000 in
theorem Random_no (x n : Int) (h : n < 1 ∨ 128 < n) (w : World) :
    Calls Try.prog 11 #[.int .u64 x, .int .i64 n] w fun e w' => e = .returned (.tuple #[.agg #[.int .i64 0, .int .u64 0, .int .u64 0], .int .u64 x]) ∧ Below w.heap.size w w' := by
  have hB := (Below.refl w.heap.size w).alloc (Nat.le_refl _) (.cells #[.int .i64 0, .int .u64 0, .int .u64 0] 45)
  by_cases h1 : n < 1
  · have e1 : decide (n < 1) = true := decide_eq_true h1
    clear h h1
    go_enter Try.func11, Try.ntmps11
    go_wp2
    exact bodyPost_ret (results_row_tmp rfl _ _ w.heap.size 45 _ (0,0) _ rfl (heap_alloc_new ..) Try.underlying45 rfl (by kernel_rfl)) rfl ⟨rfl, hB⟩
  · have e1 : decide (n < 1) = false := decide_eq_false h1
    have e2 : decide (128 < n) = true := decide_eq_true (by omega)
    clear h h1
    go_enter Try.func11, Try.ntmps11
    go_wp2
    exact bodyPost_ret (results_row_tmp rfl _ _ w.heap.size 45 _ (0,0) _ rfl (heap_alloc_new ..) Try.underlying45 rfl (by kernel_rfl)) rfl ⟨rfl, hB⟩
end Go.Proofs.Ytanimonhnngfkaa
