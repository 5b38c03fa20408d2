/-
  cells.Random and lives, as the printed texts call them.
-/
import Derived.Test.YtanimonhnngfkaaKpA1
import Derived.Test.YtanimonhnngfkaaKpK0
set_option linter.unusedVariables false
set_option linter.unusedSimpArgs false
namespace Go.Proofs.Ytanimonhnngfkaa.K
open Go.RowKit Go.Proofs.Ytanimonhnngfkaa.Own Go.Proofs.YtanimonhnngfkaaW.PrintWords Go.Proofs.YtanimonhnngfkaaW.PrintMore

def cells_Random.f (a0 : Int) (a1 : Int) : Option (Int × Int × Int × Int) := if a1 < 1 ∨ 128 < a1 then some (0, 0, 0, a0) else some (a1, cutHi a1.toNat (nextR a0), cutLo a1.toNat (nextR (nextR a0)), nextR (nextR a0))
theorem cells_Random.calls (a0 : Int) (a1 : Int) (r1 : Int) (r2 : Int) (r3 : Int) (r4 : Int) (w : World) (h : cells_Random.f a0 a1 = some (r1, r2, r3, r4)) :
    Calls Try.prog 11 #[.int .u64 a0, .int .i64 a1] w fun e w' => e = .returned (.tuple #[.agg #[.int .i64 r1, .int .u64 r2, .int .u64 r3], .int .u64 r4]) ∧ Below w.heap.size w w' := by
  unfold cells_Random.f at h
  by_cases h1 : a1 < 1 ∨ 128 < a1
  · rw [if_pos h1] at h
    simp only [Option.some.injEq, Prod.mk.injEq] at h
    obtain ⟨rfl, rfl, rfl, rfl⟩ := h
    exact Random_no a0 a1 h1 w
  · rw [if_neg h1] at h
    simp only [Option.some.injEq, Prod.mk.injEq] at h
    obtain ⟨rfl, rfl, rfl, rfl⟩ := h
    obtain ⟨n, rfl⟩ := Int.eq_ofNat_of_zero_le (show 0 ≤ a1 by omega)
    exact Random_ok a0 n (by omega) (by omega) w

def pointsmanlaw14_lives.f : Option Bool := some true
theorem pointsmanlaw14_lives.calls (r : Bool) (w : World) (h : pointsmanlaw14_lives.f = some r) :
    Calls Try.prog 9 #[] w fun e w' => e = .returned (.bool r) ∧ Below w.heap.size w w' := by
  unfold pointsmanlaw14_lives.f at h
  injection h with h
  subst h
  exact lives_any w
end Go.Proofs.Ytanimonhnngfkaa.K
