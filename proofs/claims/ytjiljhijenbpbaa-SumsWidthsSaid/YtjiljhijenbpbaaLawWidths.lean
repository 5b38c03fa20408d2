/-
  The walk of the law SumsWidths.
-/
import Derived.Test.YtjiljhijenbpbaaAlive
set_option linter.unusedVariables false
set_option linter.unusedSimpArgs false
namespace Go.Proofs.Ytjiljhijenbpbaa
open Go.RowKit SumsMath

theorem held_box {g : Nat} {u v : World} {a b c : Value} {w : World} (h : (u.cell? ⟨g, 0, none⟩ = some a ∧ u.cell? ⟨g, 1, none⟩ = some b ∧ u.cell? ⟨g, 2, none⟩ = some c) ∧ Below w.heap.size w u ∧ g < u.heap.size) (hb : Below u.heap.size u v) :
    (v.cell? ⟨g, 0, none⟩ = some a ∧ v.cell? ⟨g, 1, none⟩ = some b ∧ v.cell? ⟨g, 2, none⟩ = some c) ∧ Below w.heap.size w v ∧ g < v.heap.size := by
  obtain ⟨⟨h1, h2, h3⟩, h4, h5⟩ := h
  have := hb.size
  exact ⟨⟨(hb.cell (p := ⟨_, _, _⟩) h5).trans h1, (hb.cell (p := ⟨_, _, _⟩) h5).trans h2, (hb.cell (p := ⟨_, _, _⟩) h5).trans h3⟩, h4.trans (hb.mono h4.size), by omega⟩

set_option maxHeartbeats 3200000 in
theorem widths_law (n : Int) (A : Option Addr) (len cap : Nat) (zs : List Int) (w : World) (hx : Bytes zs) (hR : Reads w .u8 A len zs) :
    Calls Try.prog 9 #[.int .i64 n, .slice A len cap] w fun e w' => e = .returned (.bool true) ∧ Below w.heap.size w w' := by
  have hlen := hR.2.1
  have HR : Aside (Reads w .u8 A len zs ∧ Bytes zs) := ⟨hR, hx⟩
  clear hR hx
  by_cases hb : 1048576 < len
  · have hd : decide (1048576 < (len : Int)) = true := decide_eq_true (by omega)
    go_enter Try.func9, Try.ntmps9
    go_wp2_with fail
    refine (alive_any _).mono ?_
    rintro e w1 ⟨rfl, hb1⟩
    go_wp2_with fail
    refine (beyond_any len (by omega) (by omega) _ 1 _ (cellOf (heap_alloc_new w1 _) 0)).mono ?_
    rintro e w' ⟨rfl, rfl⟩
    go_wp2_with fail
    refine (alive_any _).mono ?_
    rintro e w2 ⟨rfl, hb2⟩
    go_wp2
    go_ret
    exact ⟨rfl, (hb1.alloc hb1.size _).trans (hb2.mono (by simp; have := hb1.size; omega))⟩
  · have hd : decide (1048576 < (len : Int)) = false := decide_eq_false (by omega)
    go_enter Try.func9, Try.ntmps9
    go_wp2_with fail
    refine (alive_any _).mono ?_
    rintro e w1 ⟨rfl, hb1⟩
    have hB1 := hb1.alloc hb1.size (.cells #[.int .i64 (len : Int)] 3 (0,0))
    go_wp2_with fail
    refine (beyond_any len (by omega) (by omega) _ 1 _ (cellOf (heap_alloc_new w1 _) 0)).mono ?_
    rintro e w' ⟨rfl, rfl⟩
    go_wp2_with fail
    refine (sum_any n A len cap zs (by omega) _ HR.out.2 (HR.out.1.below hB1)).mono ?_
    rintro e w2 ⟨rfl, hb2⟩
    have hB2 := hB1.trans (hb2.mono hB1.size)
    clear hb1 hb2 hB1
    by_cases hin : n < 1 ∨ 4 < n
    · have h1 : n ≠ 1 := by omega
      have h2 : n ≠ 2 := by omega
      have h3 : n ≠ 3 := by omega
      have h4 : n ≠ 4 := by omega
      have hw : widthF n = 0 := by simp only [widthF, if_neg h1, if_neg h2, if_neg h3, if_neg h4]
      have hs : sumF n zs = 0 := by simp only [sumF, if_neg h1, if_neg h2, if_neg h3, if_neg h4]
      have hnm : nameF n = ⟨#[]⟩ := by simp only [nameF, if_neg h1, if_neg h2, if_neg h3, if_neg h4]
      have he : errF n = 1 := by simp [errF, inF, h1, h2, h3, h4]
      rw [hw, hs, he]
      unfold bitsV
      have HW : Aside (widthF n = 0 ∧ nameF n = ⟨#[]⟩) := ⟨hw, hnm⟩
      clear hw hs hnm he h1 h2 h3 h4
      have hB3 := hB2.alloc hB2.size (.cells #[.int .i64 0, .int .u64 0, .int .u64 0] 34 (0,0))
      have hor : (decide (n < 1) || decide (4 < n)) = true := by simp; omega
      rcases hin with hin | hin
      all_goals go_wp2_with fail
      all_goals (
        refine (width_any n _).mono ?_
        rintro e w3 ⟨rfl, hb3⟩
        rw [HW.out.1]
        go_wp2_with fail
        refine (name_any n _).mono ?_
        rintro e w4 ⟨rfl, hb4⟩
        rw [HW.out.2]
        go_wp2
        go_ret
        exact ⟨rfl, (hB3.trans (hb3.mono hB3.size)).trans (hb4.mono (Nat.le_trans hB3.size hb3.size))⟩)
    · have hbd := sumF_bd n zs HR.out.2
      have hb16 := fun h => sumF_bd16 n h zs HR.out.2
      have hfn0 : findF (nameF n) = n := by
        obtain rfl | rfl | rfl | rfl : n = 1 ∨ n = 2 ∨ n = 3 ∨ n = 4 := by omega
        all_goals decide +kernel
      have hfn : Aside (findF (nameF n) = n) := hfn0
      clear hfn0
      have he : errF n = 0 := by
        obtain rfl | rfl | rfl | rfl : n = 1 ∨ n = 2 ∨ n = 3 ∨ n = 4 := by omega
        all_goals rfl
      obtain ⟨wd, hwd, hsm⟩ : ∃ wd : Nat, widthF n = wd ∧ sumF n zs / 2 ^ wd = 0 ∧ wd ≤ 32 := by
        obtain rfl | rfl | rfl | rfl : n = 1 ∨ n = 2 ∨ n = 3 ∨ n = 4 := by omega
        · exact ⟨16, rfl, by have := hb16 (by omega); omega, by omega⟩
        · exact ⟨32, rfl, by omega, by omega⟩
        · exact ⟨16, rfl, by have := hb16 (by omega); omega, by omega⟩
        · exact ⟨16, rfl, by have := hb16 (by omega); omega, by omega⟩
      rw [he]
      unfold bitsV
      have HWD : Aside (widthF n = wd) := hwd
      rw [hwd]
      generalize sumF n zs = sm at *
      clear he hwd hb16 hin
      have k0 : (w2.alloc (.cells #[.int .i64 (wd : Int), .int .u64 0, .int .u64 sm] 34 (0,0))).drew.cell? ⟨w2.heap.size, 0, none⟩ = some (.int .i64 wd) := cellOf (w := (w2.alloc (.cells #[.int .i64 (wd : Int), .int .u64 0, .int .u64 sm] 34 (0,0))).drew) (heap_alloc_new w2 _) 0
      have k1 : (w2.alloc (.cells #[.int .i64 (wd : Int), .int .u64 0, .int .u64 sm] 34 (0,0))).drew.cell? ⟨w2.heap.size, 1, none⟩ = some (.int .u64 0) := cellOf (w := (w2.alloc (.cells #[.int .i64 (wd : Int), .int .u64 0, .int .u64 sm] 34 (0,0))).drew) (heap_alloc_new w2 _) 1
      have k2 : (w2.alloc (.cells #[.int .i64 (wd : Int), .int .u64 0, .int .u64 sm] 34 (0,0))).drew.cell? ⟨w2.heap.size, 2, none⟩ = some (.int .u64 sm) := cellOf (w := (w2.alloc (.cells #[.int .i64 (wd : Int), .int .u64 0, .int .u64 sm] 34 (0,0))).drew) (heap_alloc_new w2 _) 2
      have hB3 : Below w.heap.size w (w2.alloc (.cells #[.int .i64 (wd : Int), .int .u64 0, .int .u64 sm] 34 (0,0))).drew := (hB2.alloc hB2.size _).drew
      have hs3 : w2.heap.size < (w2.alloc (.cells #[.int .i64 (wd : Int), .int .u64 0, .int .u64 sm] 34 (0,0))).drew.heap.size := by show w2.heap.size < (w2.alloc _).heap.size; simp
      go_wp2_with fail
      go_region_held3 (fun w' => (w'.cell? ⟨w2.heap.size, 0, none⟩ = some (.int .i64 (wd : Int)) ∧ w'.cell? ⟨w2.heap.size, 1, none⟩ = some (.int .u64 0) ∧ w'.cell? ⟨w2.heap.size, 2, none⟩ = some (.int .u64 sm)) ∧ Below w.heap.size w w' ∧ w2.heap.size < w'.heap.size)
        (first | exact ⟨⟨k0, k1, k2⟩, hB3, hs3⟩ | assumption | exact held_box (by assumption) hb5)
        ((go_simp; (first
          | (go_at_call 10; refine (width_any n _).mono ?_; rintro e w5 ⟨rfl, hb5⟩; rw [HWD.out])
          | (go_at_call 12; refine (name_any n _).mono ?_; rintro e w5 ⟨rfl, hb5⟩)
          | (go_at_call 14; refine (find_any (nameF n) _).mono ?_; rintro e w5 ⟨rfl, hb5⟩; rw [hfn.out]))))
      go_wp2
      go_ret
      rename_i hh
      exact ⟨rfl, hh.2.1⟩
end Go.Proofs.Ytjiljhijenbpbaa
