/-
  The contracts of the CRCs' table and remainder.
-/
import Derived.Test.YtdgilloblfbklaaGreatDoorStep
import Derived.Laws.Rows
import Derived.Laws.Tables
set_option linter.unusedVariables false
set_option linter.unusedSimpArgs false
namespace Go.Proofs.YtdgilloblfbklaaGreatDoor
open Go.RowKit SumsMath

/-- What is left of each byte. -/
def tabF (poly : BitVec 32) (i : Nat) : BitVec 32 := stpn poly 8 (BitVec.ofNat 32 i)
def TabIs (poly : BitVec 32) (cs : Array Value) (k : Nat) : Prop := cs.size = 256 ∧ (∀ j, j < 256 → ∃ x : Int, cs[j]? = some (.int .u32 x)) ∧ ∀ j, j < k → cs[j]? = some (.int .u32 (B32 (tabF poly j)))
def zeros256 : Array Value := Array.replicate 256 (.int .u32 0)
theorem TabIs.zero (poly : BitVec 32) : TabIs poly zeros256 0 := ⟨by simp [zeros256], fun j hj => ⟨0, by simp [zeros256, Array.getElem?_replicate, hj]⟩, fun j hj => by omega⟩
theorem TabIs.step {poly : BitVec 32} {cs : Array Value} {k : Nat} (h : TabIs poly cs k) (hk : k < 256) : TabIs poly (cs.setIfInBounds k (.int .u32 (B32 (tabF poly k)))) (k + 1) := by
  obtain ⟨h1, h2, h3⟩ := h
  refine ⟨by simp [h1], fun j hj => ?_, fun j hj => ?_⟩
  · rw [Array.getElem?_setIfInBounds]
    by_cases e : k = j
    · subst e; exact ⟨B32 (tabF poly k), by simp [h1, hk]⟩
    · rw [if_neg e]; exact h2 j hj
  · rw [Array.getElem?_setIfInBounds]
    by_cases e : k = j
    · subst e; simp [h1, hk]
    · rw [if_neg e]; exact h3 j (by omega)
theorem TabIs.oneCell {poly : BitVec 32} {cs : Array Value} {k : Nat} (h : TabIs poly cs k) : cs.all (·.oneCell') = true := by
  rw [Array.all_eq_true]
  intro i hi
  obtain ⟨x, hx⟩ := h.2.1 i (by rw [← h.1]; exact hi)
  rw [Array.getElem?_eq_getElem hi] at hx
  injection hx with hx
  rw [hx]; rfl
theorem B32_ofNat (k : Nat) (h : k < 4294967296) : B32 (BitVec.ofNat 32 k) = (k : Int) := by
  unfold B32
  rw [BitVec.toNat_ofNat, Nat.mod_eq_of_lt (by omega)]

theorem info65 : (Tryz.prog.info? 299).map (·.size) = some 256 := by kernel_rfl

set_option maxHeartbeats 1600000 in
set_option maxRecDepth 100000 in
theorem table_any (poly : BitVec 32) (pb : Nat) (w : World) (hc : w.cell? ⟨pb, 0, none⟩ = some (.int .u32 (B32 poly))) :
    Calls Tryz.prog 192 #[.func (.func 193) #[] #[.pointer (some ⟨pb, 0, none⟩)]] w fun e w' => ∃ cs, e = .returned (.agg cs) ∧ TabIs poly cs 256 ∧ Below w.heap.size w w' := by
  have hz : ∀ W : World, (zeroValue 299).run Tryz.prog W = .ok (.agg zeros256) W := fun _ => by kernel_rfl
  have hpb : pb < w.heap.size := World.block_lt_of_cell? w _ hc
  have hnew : Aside ((w.alloc (.cells zeros256 299)).heap[w.heap.size]? = some (.cells zeros256 299 (0, 0))) := heap_alloc_new w _
  have hbel : Aside (Below w.heap.size w (w.alloc (.cells zeros256 299))) := (Below.refl _ _).alloc (Nat.le_refl _) _
  have HC : Aside (w.cell? ⟨pb, 0, none⟩ = some (.int .u32 (B32 poly))) := hc
  clear hc
  go_enter Tryz.func192, Tryz.ntmps192
  go_wp2
  go_loopw [5] (fun i wr => ∃ (k : Nat) (cs : Array Value), k ≤ 256 ∧ i = .int .i64 k ∧ Aside (TabIs poly cs k) ∧ Aside (wr.heap[w.heap.size]? = some (.cells cs 299 (0, 0))) ∧ Below w.heap.size w wr) (fun i _ => 256 - (intOf i).toNat)
  case atStart => exact ⟨0, zeros256, Nat.zero_le _, rfl, TabIs.zero poly, hnew, hbel.out⟩
  case round =>
    clear hnew hbel hz
    obtain ⟨k, cs, hk, rfl, ht, hg, hb⟩ := hrel
    by_cases hlt : k < 256
    · have hcp : wr.cell? ⟨pb, 0, none⟩ = some (.int .u32 (B32 poly)) := by rw [hb.cell (p := ⟨pb, 0, none⟩) hpb]; exact HC.out
      obtain ⟨old, hold⟩ := ht.out.2.1 k hlt
      have hcell : wr.cell? ⟨w.heap.size, k, none⟩ = some (.int .u32 old) := by rw [cellOf hg.out]; exact hold
      have hfr : wr.frozen? ⟨w.heap.size, k, none⟩ = false := frozenOf hg.out k
      have hb32 : Aside (B32 (stpn poly 0 (BitVec.ofNat 32 k)) = (k : Int)) := B32_ofNat k (by omega)
      clear hold
      have hkd : decide ((k : Int) < 256) = true := by simp; omega
      go_wp2
      go_loop [4, 10] (fun c j => ∃ q : Nat, q ≤ 8 ∧ j = .int .i64 q ∧ c = .int .u32 (B32 (stpn poly q (BitVec.ofNat 32 k)))) (fun _ j => 8 - (intOf j).toNat)
      case atStart => exact ⟨0, Nat.zero_le _, rfl, by rw [hb32.out]⟩
      case round =>
        obtain ⟨q, hq, rfl, rfl⟩ := hrel
        by_cases hql : q < 8
        · have hs : Aside (stp poly (stpn poly q (BitVec.ofNat 32 k)) = stpn poly (q + 1) (BitVec.ofNat 32 k)) := (stpn_succ _ _ _).symm
          go_wp2_with (go_at_call 193; refine (step_any _ poly pb _ hcp).mono ?_; rintro e w' ⟨rfl, rfl⟩; rw [hs.out])
          go_round
          case rel => exact ⟨q + 1, by omega, by go_num, rfl⟩
          case measure => simp [intOf]; omega
        · obtain rfl : q = 8 := by omega
          go_wp2
          go_roundw
          case rel => exact ⟨k + 1, _, by omega, by go_num, ht.out.step hlt, heap_setCell_same _ _ _ _ _ _ hg.out, hb.setCell (Nat.le_refl _) _⟩
          case measure => simp [intOf]; omega
    · obtain rfl : k = 256 := by omega
      go_wp2_with (first
        | ((with_reducible show wpList _ _ _ _ _ _); refine wpList_load_row rfl 299 (.tmp 2) rfl w.heap.size rfl 299 cs (0, 0) _ hg.out Tryz.underlying299 rfl (by rw [info65, ht.out.1]) ?_)
        | ((with_reducible show wpList _ _ _ _ _ _); refine wpList_store_row rfl 299 (.tmp 2) (.tmp 20) rfl w.heap.size cs rfl rfl 299 cs hg.out (by rw [info65, ht.out.1]) rfl ht.out.oneCell ?_))
      have hrow : Aside ((wr.setRow w.heap.size cs).heap[w.heap.size]? = some (.cells cs 299 (0, 0))) := setRow_heap _ _ _ _ _ _ hg.out
      refine bodyPost_ret (results_cell_row rfl _ _ w.heap.size 299 cs (0, 0) _ rfl hrow.out Tryz.underlying299 rfl (by rw [info65, ht.out.1])) rfl ?_
      exact ⟨cs, rfl, ht.out, hb.trans ⟨rfl, rfl, rfl, by simp, fun k hk => by simp only [World.setRow, Array.getElem?_modify]; rw [if_neg (by omega)]⟩⟩
end Go.Proofs.YtdgilloblfbklaaGreatDoor
