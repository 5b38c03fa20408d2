/-
  The contracts of pointsmanlaw03.of and alive.
-/
import Derived.Test.YtjiljhijenbpbaaSumAny
import Derived.Test.YtjiljhijenbpbaaTwin
import Derived.Lib.SlBytesConst
set_option linter.unusedVariables false
set_option linter.unusedSimpArgs false
namespace Go.Proofs.Ytjiljhijenbpbaa
open Go.RowKit SumsMath

theorem ofSum_any (n : Int) (A : Option Addr) (len cap : Nat) (zs : List Int) (hlen : len ≤ 1000000000000) (w : World) (hx : Bytes zs) (hR : Reads w .u8 A len zs) :
    Calls Try.prog 24 #[.int .i64 n, .slice A len cap] w fun e w' => e = .returned (.int .u64 (sumF n zs)) ∧ Below w.heap.size w w' := by
  have h := sum_any n A len cap zs hlen w hx hR
  clear hR hx
  unfold bitsV at h
  generalize widthF n = wd at *
  generalize sumF n zs = sm at *
  generalize errF n = er at *
  go_enter Try.func24, Try.ntmps24
  go_wp2_with fail
  refine h.mono ?_
  rintro e w1 ⟨rfl, hb1⟩
  have hB := hb1.alloc hb1.size (.cells #[.int .i64 wd, .int .u64 0, .int .u64 sm] 34 (0,0))
  go_wp2
  go_ret
  exact ⟨rfl, hB⟩

theorem reads_lit (w : World) (k : IntKind) (e : TypeId) (xs : List Int) (cs : Array Value) (fr : Nat × Nat) (hc : cs = (nums k xs).toArray) (hl : xs.length ≤ 9223372036854775807) : Reads (w.alloc (.cells cs e fr)) k (some ⟨w.heap.size, 0, none⟩) xs.length xs := by
  subst hc
  refine ⟨rfl, hl, fun _ => ⟨_, rfl, fun j hj => ?_⟩⟩
  rw [add_plain]
  rw [cell_of_row _ _ j _ e fr (heap_alloc_new w (.cells (nums k xs).toArray e fr))]
  simp [nums, List.getD_eq_getElem?_getD, List.getElem?_eq_getElem hj]

def digits : List Int := [49, 50, 51, 52, 53, 54, 55, 56, 57]
theorem digits_bytes : Bytes digits := by
  intro j
  by_cases h : j < 9
  · obtain rfl | rfl | rfl | rfl | rfl | rfl | rfl | rfl | rfl : j = 0 ∨ j = 1 ∨ j = 2 ∨ j = 3 ∨ j = 4 ∨ j = 5 ∨ j = 6 ∨ j = 7 ∨ j = 8 := by omega
    all_goals exact ⟨by decide, by decide⟩
  · rw [List.getD_eq_getElem?_getD, List.getElem?_eq_none (by simp [digits]; omega)]; exact ⟨by decide, by decide⟩
theorem alive1 : sumF 1 digits = 47933 := by decide +kernel
theorem alive2 : sumF 2 digits = 3421780262 := by decide +kernel
theorem alive3 : sumF 3 digits = 63018 := by decide +kernel
theorem alive4 : sumF 4 digits = 14600 := by decide +kernel
theorem alive5 : findF ⟨#[120, 111, 114, 49, 54]⟩ = 4 := by decide +kernel
theorem alive6 : turnF 47201 16401 16145 = 47457 := by decide +kernel

/-- How the memory stands while alive goes on. -/
def AS (w0 w : World) : Prop := Below w0.heap.size w0 w ∧ Reads w .u8 (some ⟨w0.heap.size, 0, none⟩) 9 digits
theorem AS.below {w0 w w' : World} (h : AS w0 w) (hb : Below w.heap.size w w') : AS w0 w' := ⟨h.1.trans (hb.mono h.1.size), h.2.below hb⟩
theorem AS.alloc {w0 w : World} (h : AS w0 w) (o : Obj) : AS w0 (w.alloc o) := h.below ((Below.refl _ _).alloc (Nat.le_refl _) o)
theorem AS.sum {w0 w : World} (h : AS w0 w) (n : Int) (wd sm er : Int) (h1 : widthF n = wd) (h2 : sumF n digits = sm) (h3 : errF n = er) : Calls Try.prog 20 #[.int .i64 n, .slice (some ⟨w0.heap.size, 0, none⟩) 9 9] w fun e w' => e = .returned (.tuple #[.agg #[.int .i64 wd, .int .u64 0, .int .u64 sm], .int .i64 er]) ∧ AS w0 w' ∧ Below w.heap.size w w' := by
  refine (sum_any n _ 9 9 digits (by omega) w digits_bytes h.2).mono ?_
  rintro e w' ⟨rfl, hb⟩
  rw [h1, h2, h3]
  exact ⟨rfl, h.below hb, hb⟩
theorem AS.of {w0 w : World} (h : AS w0 w) (n sm : Int) (h2 : sumF n digits = sm) : Calls Try.prog 24 #[.int .i64 n, .slice (some ⟨w0.heap.size, 0, none⟩) 9 9] w fun e w' => e = .returned (.int .u64 sm) ∧ AS w0 w' := by
  refine (ofSum_any n _ 9 9 digits (by omega) w digits_bytes h.2).mono ?_
  rintro e w' ⟨rfl, hb⟩
  rw [h2]
  exact ⟨rfl, h.below hb⟩
theorem AS.find {w0 w : World} (h : AS w0 w) : Calls Try.prog 14 #[.string ⟨#[120, 111, 114, 49, 54]⟩] w fun e w' => e = .returned (.int .i64 4) ∧ AS w0 w' := by
  refine (find_any _ w).mono ?_
  rintro e w' ⟨rfl, hb⟩
  rw [alive5]
  exact ⟨rfl, h.below hb⟩
theorem AS.width {w0 w : World} (h : AS w0 w) : Calls Try.prog 10 #[.int .i64 2] w fun e w' => e = .returned (.int .i64 32) ∧ AS w0 w' := by
  refine (width_any _ w).mono ?_
  rintro e w' ⟨rfl, hb⟩
  exact ⟨rfl, h.below hb⟩
theorem AS.turn {w0 w : World} (h : AS w0 w) : Calls Try.prog 16 #[.int .u16 47201, .int .u16 16401, .int .u16 16145] w fun e w' => e = .returned (.int .u16 47457) ∧ AS w0 w' := by
  refine (turn_any _ _ _ (by decide) (by decide) (by decide) w).mono ?_
  rintro e w' ⟨rfl, rfl⟩
  rw [alive6]
  exact ⟨rfl, h⟩

set_option maxHeartbeats 3200000 in
theorem alive_any (w : World) : Calls Try.prog 23 #[] w fun e w' => e = .returned (.bool true) ∧ Below w.heap.size w w' := by
  have h0 : AS w (w.alloc (.cells (nums .u8 digits).toArray 5 (9, 10))) := ⟨(Below.refl _ _).alloc (Nat.le_refl _) _, reads_lit w .u8 5 digits _ (9, 10) rfl (by decide)⟩
  have hnd : (nums .u8 digits).toArray = #[.int .u8 49, .int .u8 50, .int .u8 51, .int .u8 52, .int .u8 53, .int .u8 54, .int .u8 55, .int .u8 56, .int .u8 57] := rfl
  rw [hnd] at h0
  have kc := fun (w : World) (C : Array Value) (n c : Nat) => Lib.run_convert_bytes_const (P := Try.prog) w 29 5 C n c Try.underlying29 Try.underlying5
  go_enter Try.func23, Try.ntmps23
  go_wp2_with fail
  refine (h0.sum 2 32 3421780262 0 rfl alive2 rfl).mono ?_
  rintro e w1 ⟨rfl, h1, _⟩
  have h1' := h1.alloc (.cells #[.int .i64 32, .int .u64 0, .int .u64 3421780262] 34 (0,0))
  go_wp2_with fail
  refine (h1'.sum 0 0 0 1 rfl rfl rfl).mono ?_
  rintro e w2 ⟨rfl, h2, hb2⟩
  have h2' := h2.alloc (.cells #[.int .i64 0, .int .u64 0, .int .u64 0] 34 (0,0))
  have hk : w2.heap[w1.heap.size]? = some (.cells #[.int .i64 32, .int .u64 0, .int .u64 3421780262] 34 (0,0)) := (hb2.block _ (by simp)).trans (heap_alloc_new w1 _)
  have c0 : w2.cell? ⟨w1.heap.size, 0, none⟩ = some (.int .i64 32) := cellOf hk 0
  have c1 : w2.cell? ⟨w1.heap.size, 1, none⟩ = some (.int .u64 0) := cellOf hk 1
  have c2 : w2.cell? ⟨w1.heap.size, 2, none⟩ = some (.int .u64 3421780262) := cellOf hk 2
  have hs2 : w1.heap.size < w2.heap.size := by have := hb2.size; simp at this; omega
  clear hk hb2
  go_wp2_with fail
  refine (h2'.of 1 _ alive1).mono ?_
  rintro e w3 ⟨rfl, h3⟩
  go_wp2_with fail
  refine (h3.of 3 _ alive3).mono ?_
  rintro e w4 ⟨rfl, h4⟩
  go_wp2_with fail
  refine (h4.of 4 _ alive4).mono ?_
  rintro e w5 ⟨rfl, h5⟩
  go_wp2_with fail
  refine h5.find.mono ?_
  rintro e w6 ⟨rfl, h6⟩
  go_wp2_with fail
  refine h6.width.mono ?_
  rintro e w7 ⟨rfl, h7⟩
  go_wp2_with fail
  refine h7.turn.mono ?_
  rintro e w8 ⟨rfl, h8⟩
  go_wp2
  go_ret
  exact ⟨rfl, h8.1⟩
end Go.Proofs.Ytjiljhijenbpbaa
