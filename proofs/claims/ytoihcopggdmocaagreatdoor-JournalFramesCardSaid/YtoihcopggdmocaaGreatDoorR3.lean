/-
  The document's journal: number, sum, four, Frame.
-/
import Derived.Test.YtoihcopggdmocaaGreatDoorFrame
import Derived.Test.YtoihcopggdmocaaGreatDoorRefSum
import Derived.Deep.DeepCutAuto
set_option linter.unusedVariables false
set_option linter.unusedSimpArgs false
namespace Go.Proofs.YtoihcopggdmocaaGreatDoor
open Go.RowKit SumsMath

theorem own_lit (w : World) (xs : List Int) (n : Nat) (hn : xs.length = n) (hm : n ≤ 9223372036854775807) (cs : Array Value) (hc : cs = (nums .u8 xs).toArray) : (w.alloc (.cells cs 5)).ownsRow w.heap.size 5 1 (.slice (some ⟨w.heap.size, 0, none⟩) n n) n (nums .u8 xs) := by
  subst hc
  exact ⟨by simp [nums, hn], .inr ⟨w.heap.size, n, _, rfl, Nat.le_refl _, heap_alloc_new w _, Nat.le_refl _, by simpa [maxLen] using hm, by simp [nums, hn], by rw [List.toList_toArray, List.take_of_length_le (by simp [nums, hn])]⟩⟩
theorem rfour_any (n : Int) (h0 : 0 ≤ n) (h1 : n ≤ 4294967295) (w : World) :
    Calls Tryz.prog 14 #[.int .u64 n] w fun e w' => e = .returned (.slice (some ⟨w.heap.size, 0, none⟩) 4 4) ∧ w' = w.alloc (.cells (nums .u8 (JMath.le4 n)).toArray 5) := by
  have e4 : n / 16777216 % 256 = n / 16777216 := by omega
  have HE := aside' (show (nums .u8 (JMath.le4 n)).toArray = #[.int .u8 (n % 256), .int .u8 (n / 256 % 256), .int .u8 (n / 65536 % 256), .int .u8 (n / 16777216 % 256)] from by simp [nums, JMath.le4])
  go_enter Tryz.func14, Tryz.ntmps14
  go_wp2
  go_ret
  exact ⟨rfl, by rw [HE.out, e4]⟩
theorem rsum_any (A : Option Addr) (n c : Nat) (xs : List Int) (hn : n ≤ 1000000000000) (w : World) (hx : Bytes xs) (hR : Reads w .u8 A n xs) :
    Calls Tryz.prog 15 #[.slice A n c] w fun e w' => e = .returned (.int .u64 (sumF 2 xs)) ∧ Below w.heap.size w w' := by
  have hbd := sumF_bd 2 xs hx
  have HS := aside' (refSum_any 2 A n c xs hn w hx hR)
  have e1 : errF 2 = 0 := rfl
  rw [e1] at HS
  unfold bitsV at HS
  generalize widthF 2 = wd at *
  obtain ⟨sm, hsm⟩ : ∃ sm, sm = sumF 2 xs := ⟨_, rfl⟩
  rw [← hsm] at HS hbd
  have HSM := aside' hsm
  clear hsm hx hR e1
  go_enter Tryz.func15, Tryz.ntmps15
  go_wp2_with fail
  refine Calls.mono HS.out ?_
  rintro e w2 ⟨rfl, hb2⟩
  have HB2 := aside' hb2
  clear hb2
  go_wp2
  go_ret
  exact ⟨by rw [← HSM.out]; rfl, HB2.out.alloc HB2.out.size _⟩
theorem RFrame_no (A : Option Addr) (n c : Nat) (hn : n ≤ 9223372036854775807) (h : n < 1 ∨ 65537 < n) (w : World) :
    Calls Tryz.prog 7 #[.slice A n c] w fun e w' => e = .returned (.tuple #[.slice none 0 0, .int .i64 1]) ∧ w' = w := by
  rcases h with h | h
  · have h1 : decide ((n : Int) < 1) = true := decide_eq_true (by omega)
    have h2 := eq_true (by omega : n < 1)
    have h3 := eq_true (by omega : n = 0)
    go_enter Tryz.func7, Tryz.ntmps7
    go_wp2
    go_ret2
    exact ⟨rfl, rfl⟩
  · have h1 : decide ((n : Int) < 1) = false := decide_eq_false (by omega)
    have h2 : decide (65537 < (n : Int)) = true := decide_eq_true (by omega)
    go_enter Tryz.func7, Tryz.ntmps7
    go_wp2
    go_ret2
    exact ⟨rfl, rfl⟩
set_option maxRecDepth 100000 in
set_option maxHeartbeats 1600000 in
theorem RFrame_ok (A : Option Addr) (n c : Nat) (xs : List Int) (w : World) (hx : Bytes xs) (hR : Reads w .u8 A n xs) (h1 : 1 ≤ n) (h2 : n ≤ 65537) :
    Calls Tryz.prog 7 #[.slice A n c] w fun e w' => ∃ g c', e = .returned (.tuple #[.slice (some ⟨g, 0, none⟩) (8 + n) c', .int .i64 0]) ∧ 8 + n ≤ c' ∧ Reads w' .u8 (some ⟨g, 0, none⟩) (8 + n) (frm xs) ∧ Below w.heap.size w w' := by
  have hxl := hR.1
  have HR := aside' (And.intro hx hR)
  have hbd := sumF_bd 2 xs hx
  have d1 : decide ((n : Int) < 1) = false := decide_eq_false (by omega)
  have d2 : decide (65537 < (n : Int)) = false := decide_eq_false (by omega)
  have HF1 := aside' (rfour_any (n : Int) (by omega) (by omega) w)
  have HX := aside' hxl
  clear hx hR hxl
  obtain ⟨sm, hsm⟩ : ∃ sm, sm = sumF 2 xs := ⟨_, rfl⟩
  rw [← hsm] at hbd
  have HSM := aside' hsm
  clear hsm
  go_enter Tryz.func7, Tryz.ntmps7
  go_wp2_with fail
  refine Calls.mono HF1.out ?_
  rintro e w1 ⟨rfl, hw1⟩
  have hown1 := own_lit w (JMath.le4 (n : Int)) 4 rfl (by decide) _ rfl
  rw [← hw1] at hown1
  have hb1 : Below w.heap.size w w1 := hw1 ▸ (Below.refl _ _).alloc (Nat.le_refl _) _
  have HS := aside' (rsum_any A n c xs (by omega) w1 HR.out.1 (HR.out.2.below hb1))
  rw [← HSM.out] at HS
  have HO1 := aside' (And.intro hown1 hb1)
  clear hw1 hown1 hb1 HF1
  go_wp2_with fail
  refine Calls.mono HS.out ?_
  rintro e w2 ⟨rfl, hb2⟩
  have HF2 := aside' (rfour_any sm hbd.1 hbd.2 w2)
  have HO2 := aside' (And.intro (own_keep HO1.out.1 hb2) (HO1.out.2.trans (hb2.mono HO1.out.2.size)))
  clear HO1 HS hb2
  go_wp2_with fail
  refine Calls.mono HF2.out ?_
  rintro e w3 ⟨rfl, hw3⟩
  have hb3 : Below w2.heap.size w2 w3 := hw3 ▸ (Below.refl _ _).alloc (Nat.le_refl _) _
  have HR3 := aside' (reads_block (k := .u8) (xs := JMath.le4 sm) (n := 4) (show w3.heap[w2.heap.size]? = _ from hw3 ▸ heap_alloc_new w2 _) rfl rfl (by decide))
  have HO3 := aside' (And.intro (own_keep HO2.out.1 hb3) (HO2.out.2.trans (hb3.mono HO2.out.2.size)))
  have hs3 := HO3.out.2.size
  clear HO2 HF2 hb3 hw3
  go_upto_region 5 with (at_builtin; refine append_row w.heap.size rfl _ _ 22 5 .u8 1 rfl Tryz.underlying22 infoU8 (by omega) (.slice (some ⟨w.heap.size, 0, none⟩) 4 4) (JMath.le4 (n : Int)) (JMath.le4 sm) _ 4 4 rfl rfl HO3.out.1 HR3.out hs3 (by (have : (JMath.le4 (n : Int)).length = 4 := rfl); omega) ?_; intro v4 w4 hown4_ hg4 hat4; have hown4 : w4.ownsRow w.heap.size 5 1 v4 8 (nums .u8 (JMath.le4 (n : Int) ++ JMath.le4 sm)) := hown4_; have hb4 := HO3.out.2.trans (own_grown HO3.out.1 hg4 hs3); have HO4 := aside' (And.intro hown4 hb4); obtain ⟨g4, c4, rfl, _, _, _, _⟩ := own_some hown4 (by decide); have hs4 := hb4.size; have HR4 := aside' (HR.out.2.below hb4); clear hown4 hown4_ hg4 hat4 hb4)
  go_wp2_with (at_builtin; refine append_row w.heap.size rfl _ _ 22 5 .u8 1 rfl Tryz.underlying22 infoU8 (by omega) (.slice (some ⟨g4, 0, none⟩) 8 c4) (JMath.le4 (n : Int) ++ JMath.le4 sm) xs _ n c rfl rfl HO4.out.1 HR4.out hs4 (by (have : (JMath.le4 (n : Int) ++ JMath.le4 sm).length = 8 := rfl); omega) ?_; intro v5 w5 hown5 hg5 hat5; rw [show (JMath.le4 (n : Int) ++ JMath.le4 sm ++ xs).length = 8 + n by (rw [List.length_append, HX.out]; rfl)] at hown5; have HO5 := aside' (And.intro hown5 (HO4.out.2.trans (own_grown HO4.out.1 hg5 hs4))); obtain ⟨g5, c5, rfl, _, _, hc5, _⟩ := own_some hown5 (by omega); have HC5 := aside' hc5; clear hown5 hg5 hat5 hc5)
  go_ret2
  have e1 : JMath.le4 (n : Int) ++ JMath.le4 sm ++ xs = frm xs := by
    rw [frm, JMath.frameF, HSM.out, HX.out, List.append_assoc]
  exact ⟨g5, c5, rfl, HC5.out, e1 ▸ own_rd HO5.out.1, HO5.out.2⟩
end Go.Proofs.YtoihcopggdmocaaGreatDoor
