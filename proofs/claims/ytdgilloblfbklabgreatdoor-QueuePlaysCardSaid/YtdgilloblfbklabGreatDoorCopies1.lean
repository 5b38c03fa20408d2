/-
  The questions that Copies asks of the effects.
-/
import Derived.Test.YtdgilloblfbklabGreatDoorTo
set_option linter.unusedVariables false
set_option linter.unusedSimpArgs false
namespace Go.Proofs.YtdgilloblfbklabGreatDoor.Own
open Go.RowKit

def effCells : Array Value := #[.int .u8 7, .string ⟨#[]⟩, .int .i64 0, .int .i64 0, .int .u64 0, .int .u64 0, .slice none 0 0, .int .i64 0, .string ⟨#[]⟩, .int .i64 0]
set_option maxRecDepth 100000 in
theorem none_ok (Bg gr : Nat) (w : World) (hg : w.heap[Bg]? = some (.cells #[.slice (some ⟨gr, 0, none⟩) 2 2] 89 (0, 0))) : Calls Tryz.prog 114 #[.agg effCells, .pointer (some ⟨Bg, 0, none⟩)] w fun e w' => e = .returned (.bool false) ∧ w' = w.alloc (.cells effCells 97) := by
  have hb := heap_alloc_new w (.cells effCells 97)
  have h0 := cellOf hb 0
  have h7 := cellOf hb 7
  have hg' : (w.alloc (.cells effCells 97)).heap[Bg]? = some (.cells #[.slice (some ⟨gr, 0, none⟩) 2 2] 89 (0, 0)) := by
    rw [Below.heap_alloc _ _ _ (Array.getElem?_eq_some_iff.1 hg).1]; exact hg
  have g0 := cellOf hg' 0
  simp only [effCells, List.getElem?_toArray, List.getElem?_cons_zero, List.getElem?_cons_succ] at h0 h7 g0
  unfold effCells
  clear hb hg hg'
  go_enter Tryz.func114, Tryz.ntmps114
  go_wp2
  go_ret
  exact ⟨rfl, rfl⟩
set_option maxRecDepth 100000 in
theorem Index_ok (Bg ef gr pt : Nat) (w : World) (hA : ToAt ef gr pt w) (hg : w.heap[Bg]? = some (.cells #[.slice (some ⟨gr, 0, none⟩) 2 2] 89 (0, 0))) : Calls Tryz.prog 177 #[.slice (some ⟨ef, 0, none⟩) 1 1, .func (.func 114) #[] #[.pointer (some ⟨Bg, 0, none⟩)]] w fun e w' => e = .returned (.int .i64 (-1)) ∧ Below w.heap.size w w' := by
  obtain ⟨⟨e0, e1, e2, e3, e4⟩, ⟨e5, e6, e7, e8, e9⟩, r0⟩ := hA.cells
  have HN := aside' (none_ok Bg gr w hg)
  clear hA hg
  go_enter Tryz.func177, Tryz.ntmps177
  go_wp2
  go_loopw [8] (fun i wr => ∃ k : Nat, k ≤ 1 ∧ i = .int .i64 k ∧ Below w.heap.size w wr ∧ (k = 0 → wr = w)) (fun i _ => 1 - (intOf i).toNat)
  case atStart => exact ⟨0, Nat.zero_le _, rfl, Below.refl _ _, fun _ => rfl⟩
  case round =>
    obtain ⟨k, hk, rfl, hB, hw⟩ := hrel
    obtain rfl | rfl : k = 0 ∨ k = 1 := by omega
    · obtain rfl := hw rfl
      rw [show ((0 : Nat) : Int) = 0 from rfl]
      go_wp2_with fail
      unfold effCells at HN
      refine Calls.mono HN.out ?_
      rintro e w2 ⟨rfl, rfl⟩
      go_wp2
      go_roundw
      case rel => exact ⟨1, by omega, by go_num, (Below.refl _ _).alloc (Nat.le_refl _) _, fun h => by cases h⟩
      case measure => (simp [intOf]; try omega)
    · rw [show ((1 : Nat) : Int) = 1 from rfl]
      go_wp2
      go_ret
      exact ⟨rfl, hB⟩
set_option maxRecDepth 100000 in
theorem Contains_ok (Bg ef gr pt : Nat) (w : World) (hA : ToAt ef gr pt w) (hg : w.heap[Bg]? = some (.cells #[.slice (some ⟨gr, 0, none⟩) 2 2] 89 (0, 0))) : Calls Tryz.prog 115 #[.slice (some ⟨ef, 0, none⟩) 1 1, .func (.func 114) #[] #[.pointer (some ⟨Bg, 0, none⟩)]] w fun e w' => e = .returned (.bool false) ∧ Below w.heap.size w w' := by
  have HN := aside' (Index_ok Bg ef gr pt w hA hg)
  clear hA hg
  go_enter Tryz.func115, Tryz.ntmps115
  go_wp2_with fail
  refine Calls.mono HN.out ?_
  rintro e w2 ⟨rfl, hb⟩
  go_wp2
  go_ret
  exact ⟨rfl, hb⟩
end Go.Proofs.YtdgilloblfbklabGreatDoor.Own
