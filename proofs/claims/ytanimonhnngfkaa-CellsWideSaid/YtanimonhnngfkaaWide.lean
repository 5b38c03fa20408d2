/-
  The law CellsWide.
-/
import Derived.Test.YtanimonhnngfkaaLives
import Derived.Test.YtanimonhnngfkaaClassRegion
set_option linter.unusedVariables false
set_option linter.unusedSimpArgs false
namespace Go.Proofs.Ytanimonhnngfkaa
open Go.RowKit

theorem shl_shr (z : Int) (m n : Nat) (h : m + n = 64) : IntKind.u64.wrap (z * 2 ^ m) / 2 ^ m = z % 2 ^ n := by
  have e : (18446744073709551616 : Int) = 2 ^ m * 2 ^ n := by rw [← Int.pow_add, h]; rfl
  have hp : (0 : Int) < 2 ^ m := Int.pow_pos (by omega)
  have e2 : IntKind.u64.wrap (z * 2 ^ m) = z * 2 ^ m % 18446744073709551616 := by rw [IntKind.wrap_u64] <;> rfl
  rw [e2, e, Int.mul_comm z, Int.mul_emod_mul_of_pos _ _ hp, Int.mul_ediv_cancel_left _ (by omega)]
structure WD (w : World) (p1 p2 : Nat) (v1 v2 : Array Value) (W : World) : Prop where
  h1 : W.heap[p1]? = some (.cells v1 45 (0, 0))
  h2 : W.heap[p2]? = some (.cells v2 45 (0, 0))
  below : Below w.heap.size w W
theorem WD.next {w : World} {p1 p2 : Nat} {v1 v2 : Array Value} {W W' : World} (h : WD w p1 p2 v1 v2 W) (hb : Below W.heap.size W W') : WD w p1 p2 v1 v2 W' :=
  ⟨(hb.block _ (Array.getElem?_eq_some_iff.1 h.h1).1).trans h.h1, (hb.block _ (Array.getElem?_eq_some_iff.1 h.h2).1).trans h.h2, h.below.trans (hb.mono h.below.size)⟩
theorem WD.all {w : World} {p1 p2 : Nat} {x0 x1 x2 y0 y1 y2 : Value} {W : World} (h : WD w p1 p2 #[x0, x1, x2] #[y0, y1, y2] W) : (W.cell? ⟨p1, 1, none⟩ = some x1 ∧ W.cell? ⟨p1, 2, none⟩ = some x2 ∧ W.cell? ⟨p2, 2, none⟩ = some y2) ∧ WD w p1 p2 #[x0, x1, x2] #[y0, y1, y2] W :=
  ⟨⟨cellOf h.h1 1, cellOf h.h1 2, cellOf h.h2 2⟩, h⟩
set_option maxRecDepth 100000 in
set_option maxHeartbeats 800000 in
theorem Wide_any (x b : Int) (hb0 : 0 ≤ b) (hb1 : b ≤ 255) (w : World) : Calls Try.prog 5 #[.int .u64 x, .int .u8 b] w fun e w' => e = .returned (.bool true) ∧ Below w.heap.size w w' := by
  obtain ⟨n, hn⟩ : ∃ n : Nat, b % 128 + 1 = (n : Int) := Int.eq_ofNat_of_zero_le (by omega)
  have hn1 : 1 ≤ n ∧ n ≤ 128 := by omega
  have hnn : (1 : Int) + b % 128 = (n : Int) := by omega
  have hwb : IntKind.i64.wrap b = b := by rw [IntKind.wrap_i64]; omega
  have hwn : IntKind.i64.wrap (n : Int) = (n : Int) := by rw [IntKind.wrap_i64]; omega
  have hwm : IntKind.i64.wrap (b % 128) = b % 128 := by rw [IntKind.wrap_i64]; omega
  have htm : b.tmod 128 = b % 128 := Int.tmod_eq_emod_of_nonneg hb0
  have HR1 := aside (fun V => Random_ok x n hn1.1 hn1.2 V)
  have HR2 := aside (fun V => Random_ok x 128 (by omega) (by omega) V)
  have HLV := aside (fun V => lives_any V)
  have hzr := nextR_range (nextR x)
  generalize nextR x = y at *
  generalize nextR y = z at *
  have hc : cutLo 128 z = z := by unfold cutLo; rw [if_neg (by omega)]
  rw [hc] at HR2
  have HCU := aside (show (n < 64 → cutHi n y = 0 ∧ cutLo n z = z % 2 ^ n) ∧ (¬ n < 64 → cutLo n z = z) from ⟨fun h => ⟨by unfold cutHi; rw [if_pos (by omega)], by unfold cutLo; rw [if_pos h]⟩, fun h => by unfold cutLo; rw [if_neg h]⟩)
  generalize cutHi n y = hi at *
  generalize cutLo n z = lo at *
  generalize cutHi 128 y = hi2 at *
  clear hn hc
  go_enter Try.func5, Try.ntmps5
  go_wp2_with fail
  refine Calls.mono (HR1.out _) ?_
  rintro e w1 ⟨rfl, hb1⟩
  go_wp2_with fail
  refine Calls.mono (HR2.out _) ?_
  rintro e w2 ⟨rfl, hb2⟩
  have hx1 := heap_alloc_new w1 (.cells #[.int .i64 (n : Int), .int .u64 hi, .int .u64 lo] 45)
  have hx2 := (hb2.block _ (Array.getElem?_eq_some_iff.1 hx1).1).trans hx1
  have k0 : w2.cell? ⟨w1.heap.size, 0, none⟩ = some (.int .i64 (n : Int)) := cellOf hx2 0
  have k1 : w2.cell? ⟨w1.heap.size, 1, none⟩ = some (.int .u64 hi) := cellOf hx2 1
  have k2 : w2.cell? ⟨w1.heap.size, 2, none⟩ = some (.int .u64 lo) := cellOf hx2 2
  have hlt : w1.heap.size < w2.heap.size := (Array.getElem?_eq_some_iff.1 hx2).1
  have HB := aside (hb1.trans ((((Below.refl w1.heap.size w1).alloc (Nat.le_refl _) (.cells #[.int .i64 (n : Int), .int .u64 hi, .int .u64 lo] 45)).trans (hb2.mono (by rw [sizeLit]; omega))).mono hb1.size))
  have HWD := aside (show WD w w1.heap.size w2.heap.size #[.int .i64 (n : Int), .int .u64 hi, .int .u64 lo] #[.int .i64 128, .int .u64 hi2, .int .u64 z] (w2.alloc (.cells #[.int .i64 128, .int .u64 hi2, .int .u64 z] 45)).drew from
    ⟨heapOld _ _ _ _ hx2, heap_alloc_new w2 _, (HB.out.alloc HB.out.size _).drew⟩)
  clear hx1 hx2 hb1 hb2
  by_cases hn : n < 64
  · obtain ⟨c1, c2⟩ := HCU.out.1 hn
    subst c1
    have hnI : decide ((n : Int) < 64) = true := decide_eq_true (by omega)
    go_wp2_with fail
    obtain ⟨m, hm⟩ : ∃ m : Nat, (64 : Int) - (n : Int) = (m : Int) := Int.eq_ofNat_of_zero_le (by omega)
    have hmn : m + n = 64 := by omega
    have hwm64 : IntKind.i64.wrap (m : Int) = (m : Int) := by rw [IntKind.wrap_i64]; omega
    have hm0 : ¬ (m : Int) < 0 := by omega
    have hm0' : (0 : Int) ≤ (m : Int) := by omega
    have hA := shl_shr z m n hmn
    obtain ⟨C, HF⟩ : ∃ C : World → Prop, Aside (∀ W, C W ↔ (W.cell? ⟨w1.heap.size, 1, none⟩ = some (.int .u64 0) ∧ W.cell? ⟨w1.heap.size, 2, none⟩ = some (.int .u64 lo) ∧ W.cell? ⟨w2.heap.size, 2, none⟩ = some (.int .u64 z)) ∧ WD w w1.heap.size w2.heap.size #[.int .i64 (n : Int), .int .u64 0, .int .u64 lo] #[.int .i64 128, .int .u64 hi2, .int .u64 z] W) := ⟨_, fun W => Iff.rfl⟩
    refine region_class C (by kernel_rfl) (by kernel_rfl) ((HF.out _).2 HWD.out.all) ?_
    clear k0 k1 k2 HWD
    repeat
      (first
        | go_big_quiet_skip
        | (go_big_quiet_want; first
            | (go_big_quiet_op; go_big_quiet_on)
            | (unfold Oper.quiet; apply Exists.intro; refine ⟨fun W hW => ?_, ?_⟩
               · obtain ⟨⟨k0, k1, k2⟩, k3⟩ := (HF.out W).1 hW
                 go_simp
                 first
                   | with_reducible rfl
                   | (go_at_call 9; refine Calls.mono (HLV.out _) ?_; rintro e w5 ⟨he, hb5⟩; exact ⟨he, (HF.out w5).2 (WD.next k3 hb5).all⟩)
               go_simp
               go_big_quiet_on)))
    refine wpQuiet_nil ?_
    intro W' hW'
    have hM := ((HF.out W').1 hW').2.below
    clear hW' HF
    go_wp2
    go_ret
    exact ⟨rfl, hM⟩
  · have c2 := HCU.out.2 hn
    subst c2
    have hnI : decide ((n : Int) < 64) = false := decide_eq_false (by omega)
    go_wp2_with fail
    refine Calls.mono (HLV.out _) ?_
    rintro e w3 ⟨rfl, hb3⟩
    go_wp2_with fail
    go_ret
    have hB := HB.out.alloc HB.out.size (.cells #[.int .i64 128, .int .u64 hi2, .int .u64 lo] 45)
    exact ⟨rfl, hB.trans (hb3.mono hB.size)⟩
end Go.Proofs.Ytanimonhnngfkaa
