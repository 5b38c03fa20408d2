/-
  The contract of bits.Check, of any number.
-/
import Derived.Test.YtanimonhnngfkaaBitsRow
import Derived.Test.YtanimonhnngfkaaBitsPkg
set_option linter.unusedVariables false
set_option linter.unusedSimpArgs false
namespace Go.Proofs.Ytanimonhnngfkaa
open Go.RowKit

/-- A number that may be. -/
def Num.ok (x : Num) : Prop := 1 ≤ x.W ∧ x.W ≤ 128 ∧ cutHi x.W.toNat x.Hi = x.Hi ∧ cutLo x.W.toNat x.Lo = x.Lo

theorem held_bits {g : Nat} {u v : World} {a b c : Value} {w : World} (h : (u.cell? ⟨g, 0, none⟩ = some a ∧ u.cell? ⟨g, 1, none⟩ = some b ∧ u.cell? ⟨g, 2, none⟩ = some c) ∧ Below w.heap.size w u ∧ g < u.heap.size) (hb : Below u.heap.size u v) :
    (v.cell? ⟨g, 0, none⟩ = some a ∧ v.cell? ⟨g, 1, none⟩ = some b ∧ v.cell? ⟨g, 2, none⟩ = some c) ∧ Below w.heap.size w v ∧ g < v.heap.size := by
  obtain ⟨⟨h1, h2, h3⟩, h4, h5⟩ := h
  have := hb.size
  exact ⟨⟨(hb.cell (p := ⟨_, _, _⟩) h5).trans h1, (hb.cell (p := ⟨_, _, _⟩) h5).trans h2, (hb.cell (p := ⟨_, _, _⟩) h5).trans h3⟩, h4.trans (hb.mono h4.size), by omega⟩

set_option maxHeartbeats 1600000 in
theorem check_good (x : Num) (hw : x.wf) (ho : x.ok) (w : World) : Calls Try.prog 27 #[x.v] w fun e w' => e = .returned (.bool true) ∧ Below w.heap.size w w' := by
  obtain ⟨W, hi, lo⟩ := x
  obtain ⟨h1, h2, h3, h4⟩ := ho
  obtain ⟨_, b1, b2⟩ := hw
  simp only at h1 h2 h3 h4 b1 b2
  obtain ⟨n, rfl⟩ := Int.eq_ofNat_of_zero_le (show 0 ≤ W by omega)
  simp only [Int.toNat_natCast] at h3 h4
  have hd : decide (1 ≤ (n : Int) ∧ (n : Int) ≤ 128) = true := decide_eq_true ⟨h1, h2⟩
  have hcut := fun W => cut_any n hi lo W (by omega) (by omega) b1 b2
  simp only [h3, h4] at hcut
  have k0 : (w.alloc (.cells #[.int .i64 (n : Int), .int .u64 hi, .int .u64 lo] 45 (0,0))).drew.cell? ⟨w.heap.size, 0, none⟩ = some (.int .i64 n) := cellOf (w := (w.alloc (.cells #[.int .i64 (n : Int), .int .u64 hi, .int .u64 lo] 45 (0,0))).drew) (heap_alloc_new w _) 0
  have k1 : (w.alloc (.cells #[.int .i64 (n : Int), .int .u64 hi, .int .u64 lo] 45 (0,0))).drew.cell? ⟨w.heap.size, 1, none⟩ = some (.int .u64 hi) := cellOf (w := (w.alloc (.cells #[.int .i64 (n : Int), .int .u64 hi, .int .u64 lo] 45 (0,0))).drew) (heap_alloc_new w _) 1
  have k2 : (w.alloc (.cells #[.int .i64 (n : Int), .int .u64 hi, .int .u64 lo] 45 (0,0))).drew.cell? ⟨w.heap.size, 2, none⟩ = some (.int .u64 lo) := cellOf (w := (w.alloc (.cells #[.int .i64 (n : Int), .int .u64 hi, .int .u64 lo] 45 (0,0))).drew) (heap_alloc_new w _) 2
  have hB : Below w.heap.size w (w.alloc (.cells #[.int .i64 (n : Int), .int .u64 hi, .int .u64 lo] 45 (0,0))).drew := ((Below.refl _ _).alloc (Nat.le_refl _) _).drew
  have hs : w.heap.size < (w.alloc (.cells #[.int .i64 (n : Int), .int .u64 hi, .int .u64 lo] 45 (0,0))).drew.heap.size := by show w.heap.size < (w.alloc _).heap.size; simp
  have HC : Aside _ := hcut
  clear hcut h3 h4
  unfold bitsV at HC
  unfold Num.v
  go_enter Try.func27, Try.ntmps27
  go_wp2_with fail
  go_region_held3 (fun w' => (w'.cell? ⟨w.heap.size, 0, none⟩ = some (.int .i64 (n : Int)) ∧ w'.cell? ⟨w.heap.size, 1, none⟩ = some (.int .u64 hi) ∧ w'.cell? ⟨w.heap.size, 2, none⟩ = some (.int .u64 lo)) ∧ Below w.heap.size w w' ∧ w.heap.size < w'.heap.size)
    (first | exact ⟨⟨k0, k1, k2⟩, hB, hs⟩ | assumption | exact held_bits (by assumption) hb5)
    ((go_simp; (first
      | (go_at_call 39; refine (wide_any _ _).mono ?_; rintro e w5 ⟨rfl, rfl⟩; rw [hd])
      | (go_at_call 40; refine Calls.mono (HC.out _) ?_; rintro e w5 ⟨rfl, hb5⟩))))
  go_wp2
  go_ret
  rename_i hh
  exact ⟨rfl, hh.2.1⟩

theorem wide_no (x : Int) (h : ¬ (1 ≤ x ∧ x ≤ 128)) (w : World) : Calls Try.prog 39 #[.int .i64 x] w fun e w' => e = .returned (.bool false) ∧ w = w' := by
  have := wide_any x w
  rwa [decide_eq_false h] at this
set_option maxHeartbeats 800000 in
theorem check_wide (x : Num) (ho : ¬ (1 ≤ x.W ∧ x.W ≤ 128)) (w : World) : Calls Try.prog 27 #[x.v] w fun e w' => e = .returned (.bool false) ∧ Below w.heap.size w w' := by
  obtain ⟨W, hi, lo⟩ := x
  have HW : Aside (∀ w, Calls Try.prog 39 #[.int .i64 W] w fun e w' => e = .returned (.bool false) ∧ w = w') := wide_no W ho
  have k0 : (w.alloc (.cells #[.int .i64 W, .int .u64 hi, .int .u64 lo] 45 (0,0))).drew.cell? ⟨w.heap.size, 0, none⟩ = some (.int .i64 W) := cellOf (w := (w.alloc (.cells #[.int .i64 W, .int .u64 hi, .int .u64 lo] 45 (0,0))).drew) (heap_alloc_new w _) 0
  have hB : Below w.heap.size w (w.alloc (.cells #[.int .i64 W, .int .u64 hi, .int .u64 lo] 45 (0,0))) := (Below.refl _ _).alloc (Nat.le_refl _) _
  clear ho
  unfold Num.v
  go_enter Try.func27, Try.ntmps27
  go_wp2_with fail
  go_quiet ((go_at_call 39; exact Calls.quiet_of_same ((HW.out _).mono (fun e w2 h => ⟨h.1, h.2.symm⟩))))
  go_wp2
  go_ret
  exact ⟨rfl, below_drewN hB _⟩
set_option maxHeartbeats 1600000 in
theorem check_cut (x : Num) (hw : x.wf) (h1 : 1 ≤ x.W) (h2 : x.W ≤ 128) (ho : ¬ (cutHi x.W.toNat x.Hi = x.Hi ∧ cutLo x.W.toNat x.Lo = x.Lo)) (w : World) : Calls Try.prog 27 #[x.v] w fun e w' => e = .returned (.bool false) ∧ Below w.heap.size w w' := by
  obtain ⟨W, hi, lo⟩ := x
  obtain ⟨_, b1, b2⟩ := hw
  simp only at h1 h2 ho b1 b2
  obtain ⟨n, rfl⟩ := Int.eq_ofNat_of_zero_le (show 0 ≤ W by omega)
  simp only [Int.toNat_natCast] at ho
  have hd : decide (1 ≤ (n : Int) ∧ (n : Int) ≤ 128) = true := decide_eq_true ⟨h1, h2⟩
  have hcut := fun W => cut_any n hi lo W (by omega) (by omega) b1 b2
  generalize cutHi n hi = a at *
  generalize cutLo n lo = b at *
  have hab : (hi == a && lo == b) = false := by
    by_cases e1 : hi = a
    · by_cases e2 : lo = b
      · exact absurd ⟨e1.symm, e2.symm⟩ ho
      · simp [e2]
    · simp [e1]
  have k0 : (w.alloc (.cells #[.int .i64 (n : Int), .int .u64 hi, .int .u64 lo] 45 (0,0))).drew.cell? ⟨w.heap.size, 0, none⟩ = some (.int .i64 n) := cellOf (w := (w.alloc (.cells #[.int .i64 (n : Int), .int .u64 hi, .int .u64 lo] 45 (0,0))).drew) (heap_alloc_new w _) 0
  have k1 : (w.alloc (.cells #[.int .i64 (n : Int), .int .u64 hi, .int .u64 lo] 45 (0,0))).drew.cell? ⟨w.heap.size, 1, none⟩ = some (.int .u64 hi) := cellOf (w := (w.alloc (.cells #[.int .i64 (n : Int), .int .u64 hi, .int .u64 lo] 45 (0,0))).drew) (heap_alloc_new w _) 1
  have k2 : (w.alloc (.cells #[.int .i64 (n : Int), .int .u64 hi, .int .u64 lo] 45 (0,0))).drew.cell? ⟨w.heap.size, 2, none⟩ = some (.int .u64 lo) := cellOf (w := (w.alloc (.cells #[.int .i64 (n : Int), .int .u64 hi, .int .u64 lo] 45 (0,0))).drew) (heap_alloc_new w _) 2
  have hB : Below w.heap.size w (w.alloc (.cells #[.int .i64 (n : Int), .int .u64 hi, .int .u64 lo] 45 (0,0))).drew := ((Below.refl _ _).alloc (Nat.le_refl _) _).drew
  have hs : w.heap.size < (w.alloc (.cells #[.int .i64 (n : Int), .int .u64 hi, .int .u64 lo] 45 (0,0))).drew.heap.size := by show w.heap.size < (w.alloc _).heap.size; simp
  have HC : Aside _ := hcut
  have HAB : Aside ((hi == a && lo == b) = false) := hab
  clear hcut ho hab
  have heq : ∀ W0 : World, (binOp .eql 45 (.agg #[.int .i64 (n : Int), .int .u64 hi, .int .u64 lo]) (.agg #[.int .i64 (n : Int), .int .u64 a, .int .u64 b])).run Try.prog W0 = .ok (.bool false) W0 := by
    intro W0
    have hz := HAB.out
    go_simp
    intro e1 e2
    simp [e1, e2] at hz
  unfold bitsV at HC
  unfold Num.v
  go_enter Try.func27, Try.ntmps27
  go_wp2_with fail
  go_region_held3 (fun w' => (w'.cell? ⟨w.heap.size, 0, none⟩ = some (.int .i64 (n : Int)) ∧ w'.cell? ⟨w.heap.size, 1, none⟩ = some (.int .u64 hi) ∧ w'.cell? ⟨w.heap.size, 2, none⟩ = some (.int .u64 lo)) ∧ Below w.heap.size w w' ∧ w.heap.size < w'.heap.size)
    (first | exact ⟨⟨k0, k1, k2⟩, hB, hs⟩ | assumption | exact held_bits (by assumption) hb5)
    ((go_simp; (first
      | (go_at_call 39; refine (wide_any _ _).mono ?_; rintro e w5 ⟨rfl, rfl⟩; rw [hd])
      | (go_at_call 40; refine Calls.mono (HC.out _) ?_; rintro e w5 ⟨rfl, hb5⟩))))
  go_wp2
  go_ret
  rename_i hh
  exact ⟨rfl, hh.2.1⟩
/-- Any number. -/
def Num.okB (x : Num) : Bool := decide (1 ≤ x.W ∧ x.W ≤ 128 ∧ cutHi x.W.toNat x.Hi = x.Hi ∧ cutLo x.W.toNat x.Lo = x.Lo)
theorem Num.okB_iff (x : Num) : x.okB = true ↔ x.ok := by unfold Num.okB Num.ok; simp
theorem check_bad (x : Num) (hw : x.wf) (ho : ¬ x.ok) (w : World) : Calls Try.prog 27 #[x.v] w fun e w' => e = .returned (.bool false) ∧ Below w.heap.size w w' := by
  by_cases h : 1 ≤ x.W ∧ x.W ≤ 128
  · exact check_cut x hw h.1 h.2 (fun hc => ho ⟨h.1, h.2, hc.1, hc.2⟩) w
  · exact check_wide x h w
theorem check_any (x : Num) (hw : x.wf) (w : World) : Calls Try.prog 27 #[x.v] w fun e w' => e = .returned (.bool x.okB) ∧ Below w.heap.size w w' := by
  by_cases h : x.ok
  · rw [x.okB_iff.2 h]; exact check_good x hw h w
  · have e : x.okB = false := by cases hb : x.okB; rfl; exact absurd (x.okB_iff.1 hb) h
    rw [e]; exact check_bad x hw h w
end Go.Proofs.Ytanimonhnngfkaa
