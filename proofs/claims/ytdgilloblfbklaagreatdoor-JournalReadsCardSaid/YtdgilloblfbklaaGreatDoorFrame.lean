/-
  The contract of journal.Frame.
-/
import Derived.Test.YtdgilloblfbklaaGreatDoorJr1
import Derived.Laws.CopyOwn
import Derived.Laws.MakeOwn
import Derived.Deep.DeepCutAuto
set_option linter.unusedVariables false
set_option linter.unusedSimpArgs false
namespace Go.Proofs.YtdgilloblfbklaaGreatDoor
open Go.RowKit SumsMath

/-- The frame of bytes. -/
def frm (xs : List Int) : List Int := JMath.frameF (sumF 2) xs
theorem infoU8 : (Tryz.prog.info? 5).map (fun i => (i.zero, i.size, i.bytes)) = some (some (.int .u8 0), 1, 1) := by kernel_rfl
theorem sizeU8 : (Tryz.prog.info? 5).map (·.size) = some 1 := by kernel_rfl
theorem makeU8 (m : Nat) (h : m ≤ 140737488355328) : ∀ W : World, (Instr.makeSlice 22 (.int .i64 (m : Int)) (.int .i64 (m : Int))).run Tryz.prog W = .ok (.slice (some ⟨W.heap.size, 0, none⟩) m m) (W.alloc (.cells (nums .u8 (List.replicate m 0)).toArray 5)) := by
  intro W
  obtain ⟨i, hi, hzz⟩ := Option.map_eq_some_iff.1 infoU8
  simp only [Prod.mk.injEq] at hzz
  obtain ⟨hz, hs, hb⟩ := hzz
  have := run_make (P := Tryz.prog) W 22 5 i _ Tryz.underlying22 hi hz .i64 .i64 m m (by omega) (by omega) (by rw [hb]; omega) (by omega)
  rw [hs] at this
  have e : madeCells #[.int .u8 0] (m * 1) = (nums .u8 (List.replicate m 0)).toArray := by
    unfold nums
    rw [madeCells, List.map_replicate, Nat.mul_one]
    apply Array.toList_inj.1
    rw [Array.toList_map, Array.toList_range, List.toList_toArray, List.eq_replicate_iff]
    refine ⟨by simp, fun b hb => ?_⟩
    obtain ⟨i, _, rfl⟩ := List.mem_map.1 hb
    simp [Nat.mod_one]
  rw [this, Int.toNat_natCast, show (Value.int .u8 0).cells = #[.int .u8 0] from rfl, e]
theorem alloc3 (w : World) (o1 o2 o3 : Obj) : (((w.alloc o1).alloc o2).alloc o3).heap[w.heap.size]? = some o1 ∧ (((w.alloc o1).alloc o2).alloc o3).heap[w.heap.size + 1]? = some o2 ∧ (((w.alloc o1).alloc o2).alloc o3).heap[w.heap.size + 1 + 1]? = some o3 ∧
    (((w.alloc o1).alloc o2).alloc o3).heap.size = w.heap.size + 3 ∧ Below w.heap.size w (((w.alloc o1).alloc o2).alloc o3) := by
  have s1 : (w.alloc o1).heap.size = w.heap.size + 1 := by simp
  have s2 : ((w.alloc o1).alloc o2).heap.size = w.heap.size + 1 + 1 := by simp
  have s3 : (((w.alloc o1).alloc o2).alloc o3).heap.size = w.heap.size + 1 + 1 + 1 := by simp
  refine ⟨?_, ?_, ?_, s3, (((Below.refl _ _).alloc (Nat.le_refl _) _).alloc (by omega) _).alloc (by omega) _⟩
  · rw [Below.heap_alloc _ _ _ (by omega), Below.heap_alloc _ _ _ (by omega)]; exact World.alloc_heap_new w o1
  · rw [Below.heap_alloc _ _ _ (by omega)]; have := World.alloc_heap_new (w.alloc o1) o2; rwa [s1] at this
  · have := World.alloc_heap_new ((w.alloc o1).alloc o2) o3; rwa [s2] at this
theorem reads_block {w : World} {g n : Nat} {k : IntKind} {t : TypeId} {cs : Array Value} {fr : Nat × Nat} {xs : List Int} (h : w.heap[g]? = some (.cells cs t fr)) (hc : cs = (nums k xs).toArray) (hn : xs.length = n) (hm : n ≤ 9223372036854775807) : Reads w k (some ⟨g, 0, none⟩) n xs := by
  subst hc
  refine ⟨hn, hm, fun _ => ⟨_, rfl, fun j hj => ?_⟩⟩
  rw [add_plain]
  simp only [World.cell?, h]
  simp [nums, List.getD_eq_getElem?_getD, List.getElem?_eq_getElem (show j < xs.length by omega)]
theorem reads_src {w : World} {A : Option Addr} {n : Nat} {xs : List Int} (h : Reads w .u8 A n xs) (hn : 0 < n) : ∃ ad, A = some ad ∧ ∀ j v, (nums .u8 xs)[j]? = some v → w.cell? (ad.add j) = some v := by
  obtain ⟨ad, e, hc⟩ := h.2.2 hn
  refine ⟨ad, e, fun j v hv => ?_⟩
  have hl := h.1
  rcases Nat.lt_or_ge j xs.length with hj | hj
  · rw [hc j (by omega)]
    simp [nums, List.getElem?_eq_getElem hj] at hv
    subst hv
    simp [List.getD_eq_getElem?_getD, List.getElem?_eq_getElem hj]
  · simp [nums, List.getElem?_eq_none hj] at hv
theorem Reads.upto {B : Nat} {w w' : World} {k : IntKind} {A : Option Addr} {n : Nat} {xs : List Int} (h : Reads w k A n xs) (hb : Below B w w') (hB : ∀ ad, A = some ad → 0 < n → ad.block < B) : Reads w' k A n xs :=
  ⟨h.1, h.2.1, fun hn => by
    obtain ⟨ad, e, hc⟩ := h.2.2 hn
    exact ⟨ad, e, fun j hj => (hb.cell (by rw [add_block]; exact hB ad e hn)).trans (hc j hj)⟩⟩
theorem splice_len {α : Type} (L : List α) (off : Nat) (cs : List α) (h : off + cs.length ≤ L.length) : (splice L off cs).length = L.length := length_splice L off cs h
theorem nums_one (k : IntKind) (xs : List Int) : ∀ v ∈ nums k xs, v.oneCell' = true := by
  intro v hv
  simp only [nums, List.mem_map] at hv
  obtain ⟨q, _, rfl⟩ := hv
  rfl
end Go.Proofs.YtdgilloblfbklaaGreatDoor
