/-
  CellsRandom, over numbers alone: what cells.Random makes is what the document's Random makes, for every number and width.
-/
import Derived.Test.YtanimonhnngfkaaK3
import Derived.Test.YtanimonhnngfkaaRefOf
set_option linter.unusedVariables false
namespace Go.Proofs.Ytanimonhnngfkaa.Pure
open Go.RowKit Go.Proofs.Ytanimonhnngfkaa.K Go.Proofs.YtanimonhnngfkaaW.PrintWords Go.Proofs.YtanimonhnngfkaaW.PrintLast

theorem ref_random (r n : Int) (k : Nat) (hk : 259 ≤ k) : pointsmanref14_Random.f k r n = cells_Random.f r n := by
  unfold pointsmanref14_Random.f cells_Random.f
  by_cases h1 : n < 1
  · rw [if_pos h1, if_pos (.inl h1)]
  · rw [if_neg h1]
    by_cases h2 : n > 128
    · rw [if_pos h2, if_pos (.inr h2)]
    · rw [if_neg h2, if_neg (by omega)]
      obtain ⟨n, rfl⟩ := Int.eq_ofNat_of_zero_le (show 0 ≤ n by omega)
      have e1 := nextR_range r
      have e2 := nextR_range (nextR r)
      have h := ref_of (nextR r) (nextR (nextR r)) e1 e2 n (by omega) (by omega) k hk
      unfold nextR at h ⊢
      rw [h]
      rfl
theorem CellsRandom : pointsmanlaw14_CellsRandom.Pure := by
  intro r n _ _
  refine ⟨259, ?_⟩
  unfold pointsmanlaw14_CellsRandom.f
  rw [ref_random r n 259 (by omega)]
  obtain ⟨⟨a, b, c, d⟩, h⟩ : ∃ q, cells_Random.f r n = some q := by
    unfold cells_Random.f
    split <;> exact ⟨_, rfl⟩
  rw [h]
  simp [pointsmanlaw14_lives.f]
end Go.Proofs.Ytanimonhnngfkaa.Pure
