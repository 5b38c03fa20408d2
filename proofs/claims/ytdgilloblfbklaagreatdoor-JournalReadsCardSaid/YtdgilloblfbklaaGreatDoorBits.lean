/-
  The contracts of package bits: wide, cut, Of.
-/
import Derived.Test.YtdgilloblfbklaaGreatDoorProg
import Derived.Test.YtdgilloblfbklaaGreatDoorLib
import Derived.Laws.BitsLemmas
import Derived.Laws.ResultCell
set_option linter.unusedVariables false
set_option linter.unusedSimpArgs false
namespace Go.Proofs.YtdgilloblfbklaaGreatDoor
open Go.RowKit

theorem wide_any (x : Int) (w : World) : Calls Tryz.prog 189 #[.int .i64 x] w fun e w' => e = .returned (.bool (decide (1 ≤ x ∧ x ≤ 128))) ∧ w = w' := by
  by_cases h1 : 1 ≤ x
  · by_cases h2 : x ≤ 128
    · rw [decide_eq_true ⟨h1, h2⟩]
      go_enter Tryz.func189, Tryz.ntmps189
      go_wp2
      go_ret
      exact ⟨rfl, rfl⟩
    · rw [decide_eq_false (fun h => h2 h.2)]
      go_enter Tryz.func189, Tryz.ntmps189
      go_wp2
      go_ret
      exact ⟨rfl, rfl⟩
  · rw [decide_eq_false (fun h => h1 h.1)]
    go_enter Tryz.func189, Tryz.ntmps189
    go_wp2
    go_ret
    exact ⟨rfl, rfl⟩

/-- A number of w bits, as Go's struct. -/
def bitsV (w hi lo : Int) : Value := .agg #[.int .i64 w, .int .u64 hi, .int .u64 lo]
/-- What is above w bits is cut off. -/
def cutHi (w : Nat) (hi : Int) : Int := if w < 64 then 0 else hi % (2 ^ (w - 64))
def cutLo (w : Nat) (lo : Int) : Int := if w < 64 then lo % (2 ^ w) else lo
theorem wraps_u64 (n : Int) (h₀ : 0 ≤ n) (h₁ : n < 2 ^ 64) : IntKind.u64.wrap n = n := by rw [IntKind.wrap_u64]; omega
theorem and_ones (i : Nat) (hi : i ≤ 64) (x : Int) (h0 : 0 ≤ x) (h1 : x ≤ 18446744073709551615) : bits .and .u64 x (IntKind.u64.wrap (IntKind.u64.wrap (2 ^ i) - 1)) = x % 2 ^ i := by
  have hp : (2:Int) ^ i = ((2 ^ i : Nat) : Int) := by simp
  have hpos : 0 < 2 ^ i := Nat.two_pow_pos i
  have e : IntKind.u64.wrap (IntKind.u64.wrap (2 ^ i) - 1) = 2 ^ i - 1 := by
    have hle : 2 ^ i ≤ 2 ^ 64 := Nat.pow_le_pow_right (by decide) hi
    rw [IntKind.wrap_u64, IntKind.wrap_u64, hp]
    omega
  rw [e]
  exact bits_mask .u64 64 (by decide) wraps_u64 i hi x h0 (by omega)

theorem cut_any (w : Nat) (hi lo : Int) (W : World) (h1 : 1 ≤ w) (h2 : w ≤ 128) (h3 : 0 ≤ hi ∧ hi ≤ 18446744073709551615) (h4 : 0 ≤ lo ∧ lo ≤ 18446744073709551615) :
    Calls Tryz.prog 190 #[.int .i64 (w : Int), .int .u64 hi, .int .u64 lo] W fun e W' => e = .returned (bitsV w (cutHi w hi) (cutLo w lo)) ∧ Below W.heap.size W W' := by
  have H3 : Aside (0 ≤ hi ∧ hi ≤ 18446744073709551615) := h3
  have H4 : Aside (0 ≤ lo ∧ lo ≤ 18446744073709551615) := h4
  clear h3 h4
  go_enter Tryz.func190, Tryz.ntmps190
  by_cases h : w < 64
  · go_wp2
    refine bodyPost_ret (results_cell_row rfl _ _ W.heap.size 74 _ (0,0) _ rfl (heap_alloc_new ..) Tryz.underlying74 rfl (by kernel_rfl)) rfl ⟨?_, (Below.refl _ _).alloc (Nat.le_refl _) _⟩
    rw [bitsV, cutHi, if_pos h, cutLo, if_pos h, ← and_ones w (by omega) lo H4.out.1 H4.out.2]
  · go_wp2
    refine bodyPost_ret (results_cell_row rfl _ _ W.heap.size 74 _ (0,0) _ rfl (heap_alloc_new ..) Tryz.underlying74 rfl (by kernel_rfl)) rfl ⟨?_, (Below.refl _ _).alloc (Nat.le_refl _) _⟩
    rw [bitsV, cutHi, if_neg h, cutLo, if_neg h, ← and_ones (w - 64) (by omega) hi H3.out.1 H3.out.2]
theorem of_any (w : Nat) (hi lo : Int) (W : World) (h1 : 1 ≤ w) (h2 : w ≤ 128) (h3 : 0 ≤ hi ∧ hi ≤ 18446744073709551615) (h4 : 0 ≤ lo ∧ lo ≤ 18446744073709551615) :
    Calls Tryz.prog 180 #[.int .i64 (w : Int), .int .u64 hi, .int .u64 lo] W fun e W' => e = .returned (.tuple #[bitsV w (cutHi w hi) (cutLo w lo), .int .i64 0]) ∧ Below W.heap.size W W' := by
  have H3 : Aside (0 ≤ hi ∧ hi ≤ 18446744073709551615) := h3
  have H4 : Aside (0 ≤ lo ∧ lo ≤ 18446744073709551615) := h4
  clear h3 h4
  generalize hA : cutHi w hi = a at *
  generalize hB : cutLo w lo = b at *
  have HA : Aside (cutHi w hi = a ∧ cutLo w lo = b) := ⟨hA, hB⟩
  clear hA hB
  have hd : decide (1 ≤ (w:Int) ∧ (w:Int) ≤ 128) = true := decide_eq_true ⟨by omega, by omega⟩
  have h0 := heap_alloc_new W (.cells #[.int .i64 0, .int .u64 0, .int .u64 0] 74 (0,0))
  have hB0 := (Below.refl W.heap.size W).alloc (Nat.le_refl _) (.cells #[.int .i64 0, .int .u64 0, .int .u64 0] 74 (0,0))
  go_enter Tryz.func180, Tryz.ntmps180
  go_wp2_with fail
  refine (wide_any _ _).mono ?_
  rintro e w' ⟨rfl, rfl⟩
  rw [hd]
  go_wp2_with fail
  refine (cut_any w hi lo _ h1 h2 H3.out H4.out).mono ?_
  rintro e w' ⟨rfl, hB1⟩
  rw [HA.out.1, HA.out.2]
  unfold bitsV
  have h5 := (hB1.block W.heap.size (by simp)).trans h0
  have c0 := cellOf h5 0
  have c1 := cellOf h5 1
  have c2 := cellOf h5 2
  have f0 := frozenOf h5 0
  have f1 := frozenOf h5 1
  have f2 := frozenOf h5 2
  clear h0
  simp only [List.getElem?_toArray, List.getElem?_cons_zero, List.getElem?_cons_succ] at c0 c1 c2
  go_wp2
  refine bodyPost_ret (results_row_tmp rfl _ _ W.heap.size 74 _ (0,0) _ rfl (set3 h5 _ _ _) Tryz.underlying74 rfl (by kernel_rfl)) rfl ⟨rfl, ?_⟩
  have hB2 : Below W.heap.size W w' := hB0.trans (hB1.mono (by simp))
  exact ((hB2.setCell (p := ⟨_, _, _⟩) (Nat.le_refl _) _).setCell (p := ⟨_, _, _⟩) (Nat.le_refl _) _).setCell (p := ⟨_, _, _⟩) (Nat.le_refl _) _
end Go.Proofs.YtdgilloblfbklaaGreatDoor
