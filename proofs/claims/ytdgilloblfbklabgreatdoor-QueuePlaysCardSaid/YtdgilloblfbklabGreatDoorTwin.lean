/-
  A twin of bytes, with a spare one behind it; what is left of it; sizes.
-/
import Derived.Test.YtdgilloblfbklabGreatDoorProg
import Derived.Test.YtdgilloblfbklabGreatDoorLib
import Derived.Laws.MakeOwn
set_option linter.unusedVariables false
set_option linter.unusedSimpArgs false
namespace Go.Proofs.YtdgilloblfbklabGreatDoor.Own
open Go.RowKit

theorem infoByteT : (Tryz.prog.info? 5).map (fun i => (i.zero, i.size, i.bytes)) = some (some (.int .u8 0), 1, 1) := by kernel_rfl

theorem make0_u8 (m : Nat) (h : m ≤ 140737488355328) : ∀ W : World, (Instr.makeSlice 35 (.int .i64 0) (.int .i64 (m : Int))).run Tryz.prog W = .ok (.slice (some ⟨W.heap.size, 0, none⟩) 0 m) (W.alloc (.cells (madeCells #[.int .u8 0] m) 5)) := by
  intro W
  obtain ⟨i, hi, hzz⟩ := Option.map_eq_some_iff.1 infoByteT
  simp only [Prod.mk.injEq] at hzz
  obtain ⟨hz, hs, hb⟩ := hzz
  have := run_make (P := Tryz.prog) W 35 5 i (.int .u8 0) Tryz.underlying35 hi hz .i64 .i64 0 m (by omega) (by omega) (by rw [hb]; omega) (by omega)
  rw [hs] at this
  simpa [Value.cells] using this

/-- A twin of bytes: memory of its own, a spare byte behind it. -/
def TwinAt (w : World) (g k n : Nat) (xs : List Int) : Prop :=
  n + 1 ≤ k ∧ Reads w .u8 (some ⟨g, 0, none⟩) n xs ∧ w.cell? ⟨g, n, none⟩ = some (.int .u8 77) ∧ k ≤ 9223372036854775807
theorem TwinAt.of_own {w : World} {base n : Nat} {e : TypeId} {v : Value} {xs : List Int} (hl : xs.length = n) (h : w.ownsRow base e 1 v (xs ++ [77]).length (nums .u8 (xs ++ [77]))) :
    ∃ g k, v = .slice (some ⟨g, 0, none⟩) (n + 1) k ∧ base ≤ g ∧ g < w.heap.size ∧ TwinAt w g k n xs ∧ w.ownsRow base e 1 (.slice (some ⟨g, 0, none⟩) n k) n (nums .u8 xs) := by
  have hn1 : (xs ++ [(77 : Int)]).length = n + 1 := by simp [hl]
  rw [hn1] at h
  obtain ⟨A, c, hv, hc, HR⟩ := own_reads h
  have hcut : w.ownsRow base e 1 (.slice A n c) n (nums .u8 xs) := by
    have h' := own_cut (A := A) (c := c) (m := n) (hv ▸ h) (by omega)
    rwa [List.take_append_of_le_length (by omega), List.take_of_length_le (by omega)] at h'
  rcases h.2 with ⟨h1, h2⟩ | ⟨g, cap, cur, hv2, hg, hb, hnc, hcm, _⟩
  · omega
  · rw [hv] at hv2
    injection hv2 with e1 _ e3
    subst e1 e3
    have hcell : ∀ j, j < n + 1 → w.cell? ⟨g, j, none⟩ = some (.int .u8 ((xs ++ [77]).getD j 0)) := by
      intro j hj
      obtain ⟨ad, h5, h6⟩ := HR.2.2 (by omega)
      injection h5 with h5
      have := h6 j hj
      rw [← h5, add_plain] at this
      exact this
    refine ⟨g, c, hv, hg, (Array.getElem?_eq_some_iff.1 hb).1, ⟨hnc, ⟨hl, by have := HR.2.1; omega, fun _ => ⟨_, rfl, fun j hj => ?_⟩⟩, ?_⟩, hcut⟩
    · rw [add_plain, hcell j (by omega)]
      rw [List.getD_eq_getElem?_getD, List.getD_eq_getElem?_getD, List.getElem?_append_left (by omega)]
    · refine ⟨?_, by simpa [maxLen] using hcm⟩
      rw [hcell n (by omega), List.getD_eq_getElem?_getD, List.getElem?_append_right (by omega)]
      simp [hl]
theorem TwinAt.below {w w' : World} {g k n : Nat} {xs : List Int} (h : TwinAt w g k n xs) (hg : g < w.heap.size) (hb : Below w.heap.size w w') : TwinAt w' g k n xs :=
  ⟨h.1, h.2.1.below hb, (hb.cell (p := ⟨g, n, none⟩) hg).trans h.2.2.1, h.2.2.2⟩
theorem TwinAt.drewN {w : World} {g k n : Nat} {xs : List Int} (h : TwinAt w g k n xs) (m : Nat) : TwinAt (w.drewN m) g k n xs := h

set_option maxHeartbeats 1600000 in
set_option maxRecDepth 100000 in
theorem twin_any (A : Option Addr) (n c : Nat) (xs : List Int) (w : World) (HR : Reads w .u8 A n xs) (hn : n ≤ 140737488351232) :
    Calls Tryz.prog 10 #[.slice A n c] w fun e w' => ∃ g k, e = .returned (.slice (some ⟨g, 0, none⟩) n k) ∧ w.heap.size ≤ g ∧ g < w'.heap.size ∧ TwinAt w' g k n xs ∧ Below w.heap.size w w' ∧ w'.ownsRow w.heap.size 5 1 (.slice (some ⟨g, 0, none⟩) n k) n (nums .u8 xs) := by
  have HA : Aside (Reads w .u8 A n xs) := HR
  have hmk := make0_u8 (n + 1) (by omega)
  have hc1 : ((n + 1 : Nat) : Int) = (n : Int) + 1 := by omega
  rw [hc1] at hmk
  clear HR
  go_enter Tryz.func10, Tryz.ntmps10
  have HO : Aside ((w.alloc (.cells (madeCells #[.int .u8 0] (n + 1)) 5)).ownsRow w.heap.size 5 1 (.slice (some ⟨w.heap.size, 0, none⟩) 0 (n + 1)) 0 []) := World.ownsRow_made w _ (n + 1) (Nat.le_refl _) (by simp [maxLen]; omega) (by simp [size_madeCells])
  have hB0 : Below w.heap.size w (w.alloc (.cells (madeCells #[.int .u8 0] (n + 1)) 5)) := (Below.refl _ _).alloc (Nat.le_refl _) _
  go_wp2
  go_loopw [3, 4] (fun v i wr => ∃ k : Nat, k ≤ n ∧ i = .int .i64 k ∧ Aside (wr.ownsRow w.heap.size 5 1 v (xs.take k).length (nums .u8 (xs.take k))) ∧ Below w.heap.size w wr) (fun _ i _ => n - (intOf i).toNat)
  case atStart => exact ⟨0, Nat.zero_le _, rfl, by simpa [nums, Aside] using HO.out, hB0⟩
  case round =>
    obtain ⟨k, hk, rfl, hO, hB⟩ := hrel
    have hsz := hB.size
    have hlk : (xs.take k).length = k := by rw [List.length_take, HA.out.1]; omega
    obtain ⟨D, L, d, rfl, HL⟩ := own_form hO.out
    by_cases hlt : k < n
    · obtain ⟨a, rfl, hca0⟩ := HA.out.at_ (k : Int) (by omega) (by omega)
      have hblk := HA.out.block_lt a rfl (by omega)
      simp only [Int.toNat_natCast, rd] at hca0
      have hca : wr.cell? (a.add k) = some (.int .u8 (xs.getD k 0)) := by rw [hB.cell (by rw [add_block]; exact hblk)]; exact hca0
      have hsn : Aside (xs.take (k + 1) = xs.take k ++ [xs.getD k 0]) := by
        rw [List.take_succ_eq_append_getElem (by rw [HA.out.1]; exact hlt)]
        simp [Aside, List.getD_eq_getElem?_getD, List.getElem?_eq_getElem (show k < xs.length by rw [HA.out.1]; exact hlt)]
      have HLK : Aside ((xs.take k).length = k) := hlk
      generalize xs.getD k 0 = x at *
      clear hca0 hlk
      have hk0 : (0 : Int) ≤ (k : Int) := by omega
      have hk1 : (k : Int) < (n : Int) := by omega
      have HR1 : Aside (Reads (wr.alloc (.cells #[.int .u8 x] 5)) .u8 (some ⟨wr.heap.size, 0, none⟩) 1 [x]) := ⟨rfl, by omega, fun _ => ⟨_, rfl, fun j hj => by
        obtain rfl : j = 0 := by omega
        rw [add_plain, cellOf (heap_alloc_new wr _)]; rfl⟩⟩
      have HO1 : Aside ((wr.alloc (.cells #[.int .u8 x] 5)).ownsRow w.heap.size 5 1 (.slice D L d) (xs.take k).length (nums .u8 (xs.take k))) := hO.out.alloc _
      go_wp2_with (at_builtin; refine append_row w.heap.size rfl _ _ 35 5 .u8 1 rfl Tryz.underlying35 infoByteT (by omega) (.slice D L d) (xs.take k) [x] _ 1 1 rfl rfl HO1.out HR1.out (by simp; omega) (by rw [HLK.out]; omega) ?_; intro v1 w1 hown hg hat)
      go_roundw
      case rel => exact ⟨k + 1, by omega, by go_num, by rw [hsn.out]; exact hown, hB.trans (((Below.refl _ wr).alloc hsz _).trans (own_grown HO1.out hg (by simp; omega)))⟩
      case measure => simp [intOf]; omega
    · obtain rfl : k = n := by omega
      have hall : xs.take k = xs := List.take_of_length_le (by rw [HA.out.1]; exact Nat.le_refl _)
      rw [hall] at hO
      have HLK : Aside (xs.length = k) := HA.out.1
      clear hall hlk
      have HR1 : Aside (Reads (wr.alloc (.cells #[.int .u8 77] 5)) .u8 (some ⟨wr.heap.size, 0, none⟩) 1 [77]) := ⟨rfl, by omega, fun _ => ⟨_, rfl, fun j hj => by
        obtain rfl : j = 0 := by omega
        rw [add_plain, cellOf (heap_alloc_new wr _)]; rfl⟩⟩
      have HO1 : Aside ((wr.alloc (.cells #[.int .u8 77] 5)).ownsRow w.heap.size 5 1 (.slice D L d) xs.length (nums .u8 xs)) := hO.out.alloc _
      go_wp2_with (at_builtin; refine append_row w.heap.size rfl _ _ 35 5 .u8 1 rfl Tryz.underlying35 infoByteT (by omega) (.slice D L d) xs [77] _ 1 1 rfl rfl HO1.out HR1.out (by simp; omega) (by rw [HLK.out]; omega) ?_; intro v1 w1 hown hg hat; obtain ⟨g, q, rfl, hbg, hgs, HT, HW⟩ := TwinAt.of_own HLK.out hown; have hq1 := HT.1; have hq2 : ((k:Nat):Int) ≤ (q:Int) := by omega)
      go_ret
      exact ⟨g, q, rfl, hbg, hgs, HT, hB.trans (((Below.refl _ wr).alloc hsz _).trans (own_grown HO1.out hg (by simp; omega))), HW⟩

set_option maxHeartbeats 1600000 in
theorem left_any (g k n d : Nat) (B : Option Addr) (xs : List Int) (w : World) (HT : TwinAt w g k n xs) (HR : Reads w .u8 B n xs) :
    Calls Tryz.prog 12 #[.slice (some ⟨g, 0, none⟩) n k, .slice B n d] w fun e w' => e = .returned (.bool true) ∧ ∃ q, w' = w.drewN q := by
  have hnk := HT.1
  have HA : Aside (TwinAt w g k n xs ∧ Reads w .u8 B n xs) := ⟨HT, HR⟩
  have hc77 := HT.2.2.1
  have hk := HT.2.2.2
  have hd1 : ((n : Int) != (n : Int)) = false := by simp
  have hd2 : decide ((k : Int) ≤ (n : Int)) = false := decide_eq_false (by omega)
  have hd3 : ((n : Int) + 1 : Int) ≤ (k : Int) := by omega
  have hd4 : (0 : Int) ≤ (n : Int) + 1 := by omega
  have hd5 : ((n : Int) + 1).toNat = n + 1 := by omega
  clear HT HR
  go_enter Tryz.func12, Tryz.ntmps12
  go_wp2
  go_loopw [5] (fun i wr => ∃ j : Nat, j ≤ n ∧ i = .int .i64 j ∧ ∃ q, wr = w.drewN q) (fun i _ => n - (intOf i).toNat)
  case atStart => exact ⟨0, Nat.zero_le _, rfl, 0, rfl⟩
  case round =>
    obtain ⟨j, hj, rfl, q, rfl⟩ := hrel
    by_cases hlt : j < n
    · obtain ⟨a, ha, hca⟩ := HA.out.1.2.1.at_ (j : Int) (by omega) (by omega)
      injection ha with ha
      subst ha
      obtain ⟨b, rfl, hcb⟩ := HA.out.2.at_ (j : Int) (by omega) (by omega)
      simp only [Int.toNat_natCast, rd] at hca hcb
      rw [add_plain] at hca
      generalize xs.getD j 0 = x at *
      have hk0 : (0 : Int) ≤ (j : Int) := by omega
      have hk1 : (j : Int) < (n : Int) := by omega
      have hxx : (x != x) = false := by simp
      go_wp2_with fail
      go_quiet (fail)
      go_wp2
      go_roundw
      case rel => exact ⟨j + 1, by omega, by go_num, _, rfl⟩
      case measure => simp [intOf]; omega
    · obtain rfl : j = n := by omega
      go_wp2
      go_ret
      exact ⟨rfl, _, rfl⟩
end Go.Proofs.YtdgilloblfbklabGreatDoor.Own
