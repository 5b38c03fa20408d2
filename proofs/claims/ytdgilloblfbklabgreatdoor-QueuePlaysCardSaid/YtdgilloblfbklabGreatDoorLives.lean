/-
  lives of book 17.
-/
import Derived.Test.YtdgilloblfbklabGreatDoorCopies
import Derived.Lib.SlBytesConst
set_option linter.unusedVariables false
set_option linter.unusedSimpArgs false
namespace Go.Proofs.YtdgilloblfbklabGreatDoor.Own
open Go.RowKit

theorem alloc4 (w : World) (a b c d : Obj) : ((((w.alloc a).alloc b).alloc c).alloc d).heap[w.heap.size]? = some a ∧ ((((w.alloc a).alloc b).alloc c).alloc d).heap[w.heap.size + 1]? = some b ∧ ((((w.alloc a).alloc b).alloc c).alloc d).heap[w.heap.size + 1 + 1]? = some c ∧ ((((w.alloc a).alloc b).alloc c).alloc d).heap[w.heap.size + 1 + 1 + 1]? = some d ∧ ((((w.alloc a).alloc b).alloc c).alloc d).heap.size = w.heap.size + 4 := by
  obtain ⟨h1, h2, h3, h4⟩ := alloc3 w a b c
  have s4 : ((((w.alloc a).alloc b).alloc c).alloc d).heap.size = w.heap.size + 4 := by simp
  have h5 := heap_alloc_new (((w.alloc a).alloc b).alloc c) d
  rw [h4] at h5
  exact ⟨(Below.heap_alloc _ _ _ (by omega)).trans h1, (Below.heap_alloc _ _ _ (by omega)).trans h2, (Below.heap_alloc _ _ _ (by omega)).trans h3, h5, s4⟩
theorem reads_one (W : World) (x : Int) : Reads (W.alloc (.cells #[.int .u8 x] 5 (1, 2))) .u8 (some ⟨W.heap.size, 0, none⟩) 1 [x] :=
  ⟨rfl, by decide, fun _ => ⟨_, rfl, fun j hj => by
    obtain rfl : j = 0 := by omega
    rw [add_plain, cell_of_row _ _ 0 _ 5 (1, 2) (heap_alloc_new W _)]
    rfl⟩⟩
set_option maxRecDepth 100000 in
set_option maxHeartbeats 3200000 in
theorem lives_any (w : World) : Calls Tryz.prog 4 #[] w fun e w' => e = .returned (.bool true) ∧ Below w.heap.size w w' := by
  have HN := aside' (show Calls Tryz.prog 5 #[.int .i64 1] w _ from New_ok 1 (by decide) w)
  have HQ0 := aside' (QAt.empty w 1 (by decide))
  have HB0 := aside' ((Below.refl w.heap.size w).alloc (Nat.le_refl _) (.cells (qz ((1 : Nat) : Int)) 104))
  have kc := fun (w : World) (C : Array Value) (n c : Nat) => Lib.run_convert_bytes_const (P := Tryz.prog) w 35 5 C n c Tryz.underlying35 Tryz.underlying5
  have hsz : (w.alloc (.cells (qz ((1 : Nat) : Int)) 104)).heap.size = w.heap.size + 1 := by simp
  go_enter Tryz.func4, Tryz.ntmps4
  go_wp2_with fail
  refine Calls.mono HN.out ?_
  rintro e w1 ⟨rfl, hw1⟩
  rw [← hw1] at HQ0 HB0 hsz
  obtain ⟨q, hq⟩ : ∃ q, q = w.heap.size := ⟨_, rfl⟩
  rw [← hq] at HQ0 hsz
  have HB0' := aside' HB0.out
  have HSZ := aside' hsz
  clear hw1 HN HB0 hsz
  have hb1 := (Below.refl w1.heap.size w1).alloc (Nat.le_refl _) (.cells #[.int .u8 97] 5 (1, 2))
  have HP := aside' (Put_at _ q 1 _ _ 0 [] (HQ0.out.below hb1) (by decide) 5 (some ⟨w1.heap.size, 0, none⟩) 1 1 [97] (reads_one w1 97) (by decide) (fun h => by cases h) (fun ad e _ => by cases e; show w1.heap.size ≠ q; have := HSZ.out; omega))
  have HB1 := aside' (HB0'.out.trans (hb1.mono (by have := HSZ.out; omega)))
  clear hb1
  rw [hq] at HP
  go_wp2_with fail
  refine Calls.mono HP.out ?_
  rintro e w2 ⟨rfl, ⟨ring2, ports2, hq2, _⟩, hf2⟩
  have HB2 := aside' (HB1.out.trans (hf2.below (B := w.heap.size) (fun i hi => by omega) HB1.out.size))
  have HQ2 := aside' hq2
  clear hf2 HP hq2 HB1
  have hb2 := (Below.refl w2.heap.size w2).alloc (Nat.le_refl _) (.cells #[.int .u8 98] 5 (1, 2))
  have HQ2' := aside' (HQ2.out.below hb2)
  have HP := aside' (Put_full _ w.heap.size 1 _ _ _ _ HQ2'.out.box (by decide) 6 (some ⟨w2.heap.size, 0, none⟩) 1 1)
  have HB3 := aside' (HB2.out.trans (hb2.mono HB2.out.size))
  clear hb2
  go_wp2_with fail
  refine Calls.mono HP.out ?_
  rintro e w3 ⟨rfl, hb3⟩
  have HQ3 := aside' (HQ2'.out.below hb3)
  have HB4 := aside' (HB3.out.trans (hb3.mono HB3.out.size))
  clear hb3 HP HB2 HB3 HQ2 HQ2'
  have HS := aside' (show Calls Tryz.prog 7 #[.pointer (some ⟨w.heap.size, 0, none⟩), .int .i64 9] w3 _ from Send_at _ _ _ _ _ _ _ HQ3.out 9 (by decide))
  go_wp2_with fail
  refine Calls.mono HS.out ?_
  rintro e w4 ⟨A, rfl, hcp, ⟨ring4, ports4, fr4, hq4, _⟩, hf4⟩
  obtain ⟨g, hA, _, hg1, hg2⟩ := hcp.ad (by decide)
  subst hA
  obtain ⟨hc4, _⟩ := hcp.at_ g rfl 0 (by decide)
  have HC4 := aside' hc4
  have HQ4 := aside' hq4
  have HB5 := aside' (HB4.out.trans (hf4.below (B := w.heap.size) (fun i hi => by omega) HB4.out.size))
  clear HB4 HS HQ3 hcp hc4 hq4 hf4
  have HS := aside' (show Calls Tryz.prog 7 #[.pointer (some ⟨w.heap.size, 0, none⟩), .int .i64 9] w4 _ from Send_at _ _ _ _ _ _ _ HQ4.out 9 (by decide))
  have hm1 : min 9 (([] : List Cp) ++ [((5 : Int), [(97 : Int)])]).length = 1 := rfl
  rw [hm1]
  clear hm1
  go_wp2_with fail
  refine Calls.mono HS.out ?_
  rintro e w5 ⟨A5, rfl, hcp5, ⟨ring5, ports5, fr5, hq5, _⟩, hf5⟩
  have hm1 : min 9 (List.drop 9 (([] : List Cp) ++ [((5 : Int), [(97 : Int)])])).length = 0 := rfl
  rw [hm1]
  clear hm1
  have hc5 := hf5.cell HC4.out hg2
  have HB6 := aside' (HB5.out.trans (hf5.below (B := w.heap.size) (fun i hi => by omega) HB5.out.size))
  have h4 := alloc4 w5 (.cells #[.int .i64 1, .int .i64 2] 3) (.cells #[.slice (some ⟨w5.heap.size, 0, none⟩) 2 2, .slice none 0 0] 88) (.cells #[.int .u8 98] 5 (1, 2)) (.cells effCells 97)
  have hb5 : Below w5.heap.size w5 ((((w5.alloc (.cells #[.int .i64 1, .int .i64 2] 3)).alloc (.cells #[.slice (some ⟨w5.heap.size, 0, none⟩) 2 2, .slice none 0 0] 88)).alloc (.cells #[.int .u8 98] 5 (1, 2))).alloc (.cells effCells 97)) := ((((Below.refl _ _).alloc (Nat.le_refl _) _).alloc (by simp) _).alloc (by simp; omega) _).alloc (by simp; omega) _
  have hr5 : Reads ((((w5.alloc (.cells #[.int .i64 1, .int .i64 2] 3)).alloc (.cells #[.slice (some ⟨w5.heap.size, 0, none⟩) 2 2, .slice none 0 0] 88)).alloc (.cells #[.int .u8 98] 5 (1, 2))).alloc (.cells effCells 97)) .u8 (some ⟨w5.heap.size + 1 + 1, 0, none⟩) 1 [98] :=
    ⟨rfl, by decide, fun _ => ⟨_, rfl, fun j hj => by
      obtain rfl : j = 0 := by omega
      rw [add_plain, cell_of_row _ _ 0 _ 5 (1, 2) h4.2.2.1]
      rfl⟩⟩
  have kc2 := kc ((w5.alloc (.cells #[.int .i64 1, .int .i64 2] 3)).alloc (.cells #[.slice (some ⟨w5.heap.size, 0, none⟩) 2 2, .slice none 0 0] 88)) #[.int .u8 98] 1 1
  simp only [World.size_alloc] at kc2
  have HCO := aside' (Copies_lives (w5.heap.size + 1 + 1 + 1) (w5.heap.size + 1) w5.heap.size (w5.heap.size + 1 + 1) _ ⟨h4.2.2.2.1, h4.2.1, h4.1⟩ hr5)
  unfold effCells passCells at HCO
  unfold effCells at hb5
  have HQ6 := aside' (hq5.box.below hb5)
  have HC6 := aside' (hb5.cell (World.block_lt_of_cell? _ _ hc5) |>.trans hc5)
  have HB7 := aside' (HB6.out.trans (hb5.mono HB6.out.size))
  clear hc5 h4 hb5 hr5 hcp5 hq5 hf5 HS HB5 HQ4 HC4
  go_wp2_with fail
  refine Calls.mono HCO.out ?_
  rintro e w6 ⟨gc, rfl, ⟨hk2, hk4⟩, hb6⟩
  have hc6 := hb6.cell (World.block_lt_of_cell? _ _ HC6.out) |>.trans HC6.out
  have HL := aside' (Len_ok w6 w.heap.size 1 _ _ _ _ (HQ6.out.below hb6))
  have HB8 := aside' (HB7.out.trans (hb6.mono HB7.out.size))
  clear hb6 HC6 HCO HQ6
  go_wp2_with fail
  refine Calls.mono HL.out ?_
  rintro e w7 ⟨rfl, rfl⟩
  go_wp2
  go_ret
  exact ⟨rfl, HB8.out⟩
end Go.Proofs.YtdgilloblfbklabGreatDoor.Own
