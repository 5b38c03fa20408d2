/-
  The walk of the law SumsSums.
-/
import Derived.Test.YtjiljhijenbpbaaRefSum
import Derived.Test.YtjiljhijenbpbaaTwin
set_option linter.unusedVariables false
set_option linter.unusedSimpArgs false
namespace Go.Proofs.Ytjiljhijenbpbaa
open Go.RowKit SumsMath

theorem bytes_of {n : Nat} {zs : List Int} (hl : zs.length = n) (h : ∀ j, j < n → (0 ≤ zs.getD j 0 ∧ zs.getD j 0 ≤ 255)) : Bytes zs := by
  intro j
  by_cases hj : j < n
  · exact h j hj
  · rw [List.getD_eq_getElem?_getD, List.getElem?_eq_none (by omega)]; exact ⟨by decide, by decide⟩
set_option maxHeartbeats 3200000 in
theorem sums_law (n : Int) (A : Option Addr) (len cap : Nat) (zs : List Int) (w : World) (hx : Bytes zs) (hR : Reads w .u8 A len zs) :
    Calls Try.prog 4 #[.int .i64 n, .slice A len cap] w fun e w' => e = .returned (.bool true) ∧ Below w.heap.size w w' := by
  have hlen := hR.2.1
  have HR : Aside (Reads w .u8 A len zs ∧ Bytes zs) := ⟨hR, hx⟩
  clear hR hx
  have hB0 := (Below.refl w.heap.size w).alloc (Nat.le_refl _) (.cells #[.int .i64 (len : Int)] 3 (0,0))
  by_cases hb : 1048576 < len
  · have hd : decide (1048576 < (len : Int)) = true := decide_eq_true (by omega)
    go_enter Try.func4, Try.ntmps4
    go_wp2_with fail
    refine (beyond_any len (by omega) (by omega) _ 1 _ (cellOf (heap_alloc_new w _) 0)).mono ?_
    rintro e w' ⟨rfl, rfl⟩
    go_wp2
    go_ret
    exact ⟨rfl, hB0⟩
  · have hd : decide (1048576 < (len : Int)) = false := decide_eq_false (by omega)
    go_enter Try.func4, Try.ntmps4
    go_wp2_with fail
    refine (beyond_any len (by omega) (by omega) _ 1 _ (cellOf (heap_alloc_new w _) 0)).mono ?_
    rintro e w' ⟨rfl, rfl⟩
    go_wp2_with fail
    refine (twin_any A len cap zs _ (HR.out.1.below hB0) (by omega)).mono ?_
    rintro e w1 ⟨g, k, rfl, hg1, hg2, HT, hb1⟩
    go_wp2_with fail
    refine (sum_any n _ len k zs (by omega) _ HR.out.2 HT.2.1).mono ?_
    rintro e w2 ⟨rfl, hb2⟩
    have HB2 : Below w.heap.size w w2 := (hB0.trans (hb1.mono (by simp))).trans (hb2.mono (Nat.le_trans (Nat.le_trans (by simp) hg1) (Nat.le_of_lt hg2)))
    have hs2 := HB2.size
    have HT2 : Aside (TwinAt w2 g k len zs ∧ g < w2.heap.size) := ⟨HT.below hg2 hb2, Nat.lt_of_lt_of_le hg2 hb2.size⟩
    have HR2 : Aside (Reads (w2.alloc (.cells #[.int .i64 (widthF n), .int .u64 0, .int .u64 (sumF n zs)] 34)) .u8 A len zs) := HR.out.1.below (HB2.alloc hs2 _)
    have hq := refSum_any n A len cap zs (by omega) _ HR.out.2 HR2.out
    unfold bitsV at *
    generalize widthF n = wd at *
    generalize sumF n zs = sm at *
    generalize errF n = er at *
    clear hb1 hb2 HT hB0
    go_wp2_with fail
    refine hq.mono ?_
    rintro e w3 ⟨rfl, hb3⟩
    have h6 : w3.heap[w2.heap.size]? = some (.cells #[.int .i64 wd, .int .u64 0, .int .u64 sm] 34 (0,0)) := (hb3.block _ (by simp)).trans (heap_alloc_new w2 _)
    have HB3 : Below w.heap.size w w3 := (HB2.alloc hs2 _).trans (hb3.mono (by simp; omega))
    have HT3 : Aside (TwinAt w3 g k len zs ∧ g < w3.heap.size) := ⟨(HT2.out.1.below HT2.out.2 ((Below.refl _ _).alloc (Nat.le_refl _) _)).below (by simp; have := HT2.out.2; omega) hb3, by have := hb3.size; simp at this; have := HT2.out.2; omega⟩
    have c0 : w3.cell? ⟨w2.heap.size, 0, none⟩ = some (.int .i64 wd) := cellOf h6 0
    have c1 : w3.cell? ⟨w2.heap.size, 1, none⟩ = some (.int .u64 0) := cellOf h6 1
    have c2 : w3.cell? ⟨w2.heap.size, 2, none⟩ = some (.int .u64 sm) := cellOf h6 2
    have hs3 : w2.heap.size < w3.heap.size := by have := hb3.size; simp at this; omega
    clear h6 hb3 hq
    go_wp2_with fail
    have hs3' := HB3.size
    have HB4 : Below w.heap.size w (w3.alloc (.cells #[.int .i64 wd, .int .u64 0, .int .u64 sm] 34 (0,0))) := HB3.alloc hs3' _
    refine (left_any g k len cap A zs _ (HT3.out.1.below HT3.out.2 ((Below.refl _ _).alloc (Nat.le_refl _) _)) (HR.out.1.below HB4)).mono ?_
    rintro e w4 ⟨rfl, q, rfl⟩
    go_wp2
    go_ret
    exact ⟨rfl, below_drewN HB4 q⟩
end Go.Proofs.Ytjiljhijenbpbaa
