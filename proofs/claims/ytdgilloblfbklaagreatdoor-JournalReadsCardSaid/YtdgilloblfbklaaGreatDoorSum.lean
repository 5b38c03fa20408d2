/-
  The contract of Sum.
-/
import Derived.Test.YtdgilloblfbklaaGreatDoorNames
set_option linter.unusedVariables false
set_option linter.unusedSimpArgs false
namespace Go.Proofs.YtdgilloblfbklaaGreatDoor
open Go.RowKit SumsMath

def poly1 : BitVec 32 := 40961#32
def poly2 : BitVec 32 := 3988292384#32
theorem B32_poly1 : B32 poly1 = 40961 := by decide
theorem B32_poly2 : B32 poly2 = 3988292384 := by decide
theorem B32_0 : B32 0#32 = 0 := by decide
theorem B32_ones : B32 (BitVec.allOnes 32) = 4294967295 := by decide

theorem crc16_any (A : Option Addr) (n d : Nat) (xs : List Int) (w : World) (HR : Reads w .u8 A n xs) (hx : Bytes xs) :
    Calls Tryz.prog 182 #[.slice A n d] w fun e w' => e = .returned (.int .u32 (B32 (crc poly1 0#32 (bvs xs)))) ∧ Below w.heap.size w w' := by
  have h := remainder_any A n d xs poly1 0#32 w HR hx
  clear HR hx
  generalize B32 (crc poly1 0#32 (bvs xs)) = x at *
  rw [B32_poly1, B32_0] at h
  go_enter Tryz.func182, Tryz.ntmps182
  go_wp2_with fail
  refine h.mono ?_
  rintro e w' ⟨rfl, hB⟩
  go_wp2
  go_ret
  exact ⟨rfl, hB⟩
theorem crc32_any (A : Option Addr) (n d : Nat) (xs : List Int) (w : World) (HR : Reads w .u8 A n xs) (hx : Bytes xs) :
    Calls Tryz.prog 184 #[.slice A n d] w fun e w' => e = .returned (.int .u32 (4294967295 - B32 (crc poly2 (BitVec.allOnes 32) (bvs xs)))) ∧ Below w.heap.size w w' := by
  have h := remainder_any A n d xs poly2 (BitVec.allOnes 32) w HR hx
  clear HR hx
  have hb := B32_bd (crc poly2 (BitVec.allOnes 32) (bvs xs))
  generalize B32 (crc poly2 (BitVec.allOnes 32) (bvs xs)) = x at *
  rw [B32_poly2, B32_ones] at h
  go_enter Tryz.func184, Tryz.ntmps184
  go_wp2_with fail
  refine h.mono ?_
  rintro e w' ⟨rfl, hB⟩
  have hn := not_u32 x hb.1 (by omega)
  go_wp2
  go_ret
  exact ⟨by rw [← hn]; rfl, hB⟩

set_option maxHeartbeats 3200000 in
theorem sum_g (n : Int) (g : Nat) (x : Int) (A : Option Addr) (len cap : Nat) (w : World) (hx : 0 ≤ x ∧ x ≤ 4294967295) (W : Nat) (hW : widthF n = W) (h1 : 1 ≤ W) (h2 : W ≤ 128) (hcut : cutLo W x = x) (hg : fnF n = .func (.func g) #[] #[]) (hin : inF n = true) (hgs : g = 182 ∨ g = 184 ∨ g = 185 ∨ g = 188)
    (hcon : ∀ W', Below w.heap.size w W' → Calls Tryz.prog g #[.slice A len cap] W' fun e W'' => e = .returned (.int .u32 x) ∧ Below W'.heap.size W' W'') :
    Calls Tryz.prog 172 #[.int .i64 n, .slice A len cap] w fun e w' => e = .returned (.tuple #[bitsV (widthF n) 0 x, .int .i64 0]) ∧ Below w.heap.size w w' := by
  have hl := look_any (w.alloc (.cells #[.int .i64 0, .int .u64 0, .int .u64 0] 74)) n true
  simp only [World.size_alloc, hW, hg, hin] at hl
  have HC : Aside (∀ W', Below w.heap.size w W' → Calls Tryz.prog g #[.slice A len cap] W' fun e W'' => e = .returned (.int .u32 x) ∧ Below W'.heap.size W' W'') := hcon
  clear hcon
  go_enter Tryz.func172, Tryz.ntmps172
  go_wp2_with fail
  refine (rows_any _).mono ?_
  rintro e w' ⟨rfl, rfl⟩
  go_wp2_with fail
  have hV4 : (((w.alloc (Obj.cells #[Value.int IntKind.i64 0, Value.int IntKind.u64 0, Value.int IntKind.u64 0] 74)).alloc (Obj.map rowsEs 4)).alloc (Obj.cells #[Value.string (nameF n), Value.int IntKind.i64 ↑W, Value.func (Fn.func g) #[] #[]] 290)).heap[w.heap.size]? = some (.cells #[Value.int IntKind.i64 0, Value.int IntKind.u64 0, Value.int IntKind.u64 0] 74 (0,0)) := by
    rw [Below.heap_alloc _ _ _ (by simp; omega), Below.heap_alloc _ _ _ (by simp)]; exact heap_alloc_new _ _
  have hV6 : (((w.alloc (Obj.cells #[Value.int IntKind.i64 0, Value.int IntKind.u64 0, Value.int IntKind.u64 0] 74)).alloc (Obj.map rowsEs 4)).alloc (Obj.cells #[Value.string (nameF n), Value.int IntKind.i64 ↑W, Value.func (Fn.func g) #[] #[]] 290)).heap[w.heap.size + 1 + 1]? = some (.cells #[Value.string (nameF n), Value.int IntKind.i64 ↑W, Value.func (Fn.func g) #[] #[]] 290 (0,0)) := by
    have h := heap_alloc_new ((w.alloc (Obj.cells #[Value.int IntKind.i64 0, Value.int IntKind.u64 0, Value.int IntKind.u64 0] 74)).alloc (Obj.map rowsEs 4)) (Obj.cells #[Value.string (nameF n), Value.int IntKind.i64 ↑W, Value.func (Fn.func g) #[] #[]] 290)
    simpa using h
  have hVB : Below w.heap.size w (((w.alloc (Obj.cells #[Value.int IntKind.i64 0, Value.int IntKind.u64 0, Value.int IntKind.u64 0] 74)).alloc (Obj.map rowsEs 4)).alloc (Obj.cells #[Value.string (nameF n), Value.int IntKind.i64 ↑W, Value.func (Fn.func g) #[] #[]] 290)) :=
    (((Below.refl _ w).alloc (Nat.le_refl _) _).alloc (by simp) _).alloc (by simp; omega) _
  have hVs : (((w.alloc (Obj.cells #[Value.int IntKind.i64 0, Value.int IntKind.u64 0, Value.int IntKind.u64 0] 74)).alloc (Obj.map rowsEs 4)).alloc (Obj.cells #[Value.string (nameF n), Value.int IntKind.i64 ↑W, Value.func (Fn.func g) #[] #[]] 290)).heap.size = w.heap.size + 3 := by simp
  clear hl
  generalize (((w.alloc (Obj.cells #[Value.int IntKind.i64 0, Value.int IntKind.u64 0, Value.int IntKind.u64 0] 74)).alloc (Obj.map rowsEs 4)).alloc (Obj.cells #[Value.string (nameF n), Value.int IntKind.i64 ↑W, Value.func (Fn.func g) #[] #[]] 290)) = V at *
  have e1 : V.drew.cell? ⟨w.heap.size + 1 + 1, 1, none⟩ = some (.int .i64 W) := cellOf (w := V.drew) hV6 1
  have e2 : V.drew.cell? ⟨w.heap.size + 1 + 1, 2, none⟩ = some (.func (.func g) #[] #[]) := cellOf (w := V.drew) hV6 2
  have HV4 : Aside (V.drew.heap[w.heap.size]? = some (.cells #[Value.int IntKind.i64 0, Value.int IntKind.u64 0, Value.int IntKind.u64 0] 74 (0,0))) := hV4
  have HV6 : Aside (V.drew.heap[w.heap.size + 1 + 1]? = some (.cells #[Value.string (nameF n), Value.int IntKind.i64 ↑W, Value.func (Fn.func g) #[] #[]] 290 (0,0))) := hV6
  have HVB : Below w.heap.size w V.drew := hVB.drew
  have HVs : Aside (V.drew.heap.size = w.heap.size + 3) := hVs
  have HCut : Aside (cutLo W x = x) := hcut
  have HHi : Aside (cutHi W 0 = 0) := by unfold cutHi; split <;> simp [Aside]
  clear hV4 hV6 hVs hcut hVB
  have hwx : IntKind.u64.wrap x = x := by rw [IntKind.wrap_u64]; omega
  rcases hgs with rfl | rfl | rfl | rfl
  all_goals go_region_law ((go_simp; first
     | ((first | go_at_call 182 | go_at_call 184 | go_at_call 185 | go_at_call 188); refine (HC.out _ HVB).mono ?_; rintro e w1 ⟨rfl, hb1⟩; have k1 : w1.cell? ⟨w.heap.size + 1 + 1, 1, none⟩ = some (.int .i64 W) := (hb1.cell (p := ⟨w.heap.size + 1 + 1, 1, none⟩) (by rw [HVs.out]; show w.heap.size + 1 + 1 < w.heap.size + 3; omega)).trans (cellOf HV6.out 1))
     | (go_at_call 180; refine (of_any W 0 x _ h1 h2 ⟨by omega, by omega⟩ ⟨by omega, by omega⟩).mono ?_; rintro e w2 ⟨rfl, hb2⟩; rw [HHi.out, HCut.out]; unfold bitsV; have h5 : w2.heap[w.heap.size]? = some (.cells #[Value.int IntKind.i64 0, Value.int IntKind.u64 0, Value.int IntKind.u64 0] 74 (0,0)) := (hb2.block _ (by have := hb1.size; have := HVs.out; omega)).trans ((hb1.block _ (by rw [HVs.out]; omega)).trans HV4.out); have H5 : Aside (w2.heap[w.heap.size]? = some (.cells #[Value.int IntKind.i64 0, Value.int IntKind.u64 0, Value.int IntKind.u64 0] 74 (0,0))) := h5; have c0 : w2.cell? ⟨w.heap.size, 0, none⟩ = some (.int .i64 0) := cellOf h5 0; have c1 : w2.cell? ⟨w.heap.size, 1, none⟩ = some (.int .u64 0) := cellOf h5 1; have c2 : w2.cell? ⟨w.heap.size, 2, none⟩ = some (.int .u64 0) := cellOf h5 2; have f0 := frozenOf h5 0; have f1 := frozenOf h5 1; have f2 := frozenOf h5 2; clear h5)))
  all_goals go_wp2
  all_goals (
    refine bodyPost_ret (results_row_tmp rfl _ _ w.heap.size 74 _ (0,0) _ rfl (set3 H5.out _ _ _) Tryz.underlying74 rfl (by kernel_rfl)) rfl ⟨by rw [hW]; rfl, ?_⟩
    have hB2 : Below w.heap.size w w2 := (HVB.trans (hb1.mono HVB.size)).trans (hb2.mono (Nat.le_trans HVB.size hb1.size))
    exact ((hB2.setCell (p := ⟨_, _, _⟩) (Nat.le_refl _) _).setCell (p := ⟨_, _, _⟩) (Nat.le_refl _) _).setCell (p := ⟨_, _, _⟩) (Nat.le_refl _) _)
end Go.Proofs.YtdgilloblfbklaaGreatDoor
