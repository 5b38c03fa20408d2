/-
  cells.Random.
-/
import Derived.Test.YtanimonhnngfkaaCount
set_option linter.unusedVariables false
set_option linter.unusedSimpArgs false
namespace Go.Proofs.Ytanimonhnngfkaa
open Go.RowKit

/-- The next number behind one. -/
def nextR (x : Int) : Int := IntKind.u64.wrap (IntKind.u64.wrap (x * 6364136223846793005) + 1442695040888963407)
theorem step_any (x : Int) (w : World) : Calls Try.prog 22 #[.int .u64 x] w fun e w' => e = .returned (.int .u64 (nextR x)) ∧ w = w' := by
  unfold nextR
  go_enter Try.func22, Try.ntmps22
  go_wp2
  go_ret
  exact ⟨rfl, rfl⟩
theorem nextR_range (x : Int) : 0 ≤ nextR x ∧ nextR x ≤ 18446744073709551615 := by
  unfold nextR
  rw [IntKind.wrap_u64]
  omega
set_option maxRecDepth 100000 in
set_option maxHeartbeats 800000 in
theorem Random_ok (x : Int) (n : Nat) (h1 : 1 ≤ n) (h2 : n ≤ 128) (w : World) :
    Calls Try.prog 11 #[.int .u64 x, .int .i64 (n : Int)] w fun e w' => e = .returned (.tuple #[.agg #[.int .i64 (n : Int), .int .u64 (cutHi n (nextR x)), .int .u64 (cutLo n (nextR (nextR x)))], .int .u64 (nextR (nextR x))]) ∧ Below w.heap.size w w' := by
  have HS1 := aside (fun V => step_any x V)
  have HS2 := aside (fun V => step_any (nextR x) V)
  have HO := aside (fun V => of_any n (nextR x) (nextR (nextR x)) V h1 h2 (nextR_range _) (nextR_range _))
  unfold bitsV at HO
  generalize nextR x = y at *
  generalize nextR y = z at *
  have e1 : decide ((n : Int) < 1) = false := decide_eq_false (by omega)
  have e2 : decide (128 < (n : Int)) = false := decide_eq_false (by omega)
  go_enter Try.func11, Try.ntmps11
  go_wp2_with fail
  refine Calls.mono (HS1.out _) ?_
  rintro e w1 ⟨rfl, rfl⟩
  go_wp2_with fail
  refine Calls.mono (HS2.out _) ?_
  rintro e w1 ⟨rfl, rfl⟩
  go_wp2_with fail
  refine Calls.mono (HO.out _) ?_
  rintro e w2 ⟨rfl, hb2⟩
  have hbw : Below w.heap.size w w2 := by
    have h := (Below.refl w.heap.size w).alloc (Nat.le_refl _) (.cells #[.int .i64 0, .int .u64 0, .int .u64 0] 45)
    exact h.trans (hb2.mono h.size)
  have hz := (hb2.block _ (Array.getElem?_eq_some_iff.1 (heap_alloc_new w (.cells #[.int .i64 0, .int .u64 0, .int .u64 0] 45))).1).trans (heap_alloc_new w (.cells #[.int .i64 0, .int .u64 0, .int .u64 0] 45))
  have hzA := heapOld w2 (.cells #[.int .i64 (n : Int), .int .u64 (cutHi n y), .int .u64 (cutLo n z)] 45) _ _ hz
  have hbA : Below w.heap.size w (w2.alloc (.cells #[.int .i64 (n : Int), .int .u64 (cutHi n y), .int .u64 (cutLo n z)] 45)) := hbw.alloc hbw.size _
  have z0 := cellOf hz 0
  have z1 := cellOf hz 1
  have z2 := cellOf hz 2
  have fz := frozenOf hz
  have hlt : w.heap.size < w2.heap.size := (Array.getElem?_eq_some_iff.1 hz).1
  have HZ := aside hz
  have HB := aside hbw
  clear hb2 hbw hz hzA hbA
  go_wp2_with fail
  refine bodyPost_ret (results_row_tmp rfl _ _ w.heap.size 45 _ (0, 0) _ rfl (heapOld _ _ _ _ (set3 HZ.out _ _ _)) Try.underlying45 rfl (by kernel_rfl)) rfl ⟨rfl, ?_⟩
  have hb := ((HB.out.setCell (p := ⟨w.heap.size, 0, none⟩) (Nat.le_refl _) (.int .i64 (n : Int))).setCell (p := ⟨w.heap.size, 1, none⟩) (Nat.le_refl _) (.int .u64 (cutHi n y))).setCell (p := ⟨w.heap.size, 2, none⟩) (Nat.le_refl _) (.int .u64 (cutLo n z))
  exact hb.alloc hb.size _
end Go.Proofs.Ytanimonhnngfkaa
