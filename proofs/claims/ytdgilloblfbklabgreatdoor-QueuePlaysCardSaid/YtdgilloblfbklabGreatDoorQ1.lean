/-
  The queue in its box: New, there, Len.
-/
import Derived.Test.YtdgilloblfbklabGreatDoorProg
import Derived.Test.YtdgilloblfbklabGreatDoorLib
set_option linter.unusedVariables false
set_option linter.unusedSimpArgs false
namespace Go.Proofs.YtdgilloblfbklabGreatDoor.Own
open Go.RowKit

def qcells (room : Int) (ring : List Value) (ports : List Int) (fr n : Nat) : List Value := [.int .i64 1, .int .i64 room] ++ (ring ++ (nums .i64 ports ++ [.int .i64 (fr : Int), .int .i64 (n : Int)]))
def qz (room : Int) : Array Value := (qcells room (List.replicate 64 (.slice none 0 0)) (List.replicate 64 0) 0 0).toArray
def zqL : List Value := .int .i64 0 :: .int .i64 0 :: (List.replicate 64 (.slice none 0 0) ++ (nums .i64 (List.replicate 64 0) ++ [.int .i64 0, .int .i64 0]))
def zq : Array Value := zqL.toArray
theorem zq_run (W : World) : (zeroValue 104).run Tryz.prog W = .ok (.agg zq) W := by kernel_rfl
theorem zq_ne : (zq = #[]) = False := by
  apply eq_false
  intro h
  have := congrArg Array.size h
  simp [zq, zqL] at this
theorem zq_size : zq.size = 132 := by simp [zq, zqL, nums_length]
theorem zq_set (room : Int) : (zq.setIfInBounds 0 (.int .i64 1)).setIfInBounds 1 (.int .i64 room) = qz room := by
  unfold zq qz zqL qcells
  rw [List.setIfInBounds_toArray, List.setIfInBounds_toArray]
  rfl
set_option maxRecDepth 100000 in
theorem New_ok (room : Nat) (h : room ≤ 64) (w : World) : Calls Tryz.prog 5 #[.int .i64 (room : Int)] w fun e w' => e = .returned (.tuple #[.pointer (some ⟨w.heap.size, 0, none⟩), .int .i64 0]) ∧ w' = w.alloc (.cells (qz room) 104) := by
  have e1 : decide ((room : Int) < 0) = false := decide_eq_false (by omega)
  have e2 : decide ((64 : Int) < (room : Int)) = false := decide_eq_false (by omega)
  have h1 := zq_run
  have h2 := zq_ne
  have h3 := zq_size
  have h4 := zq_set (room : Int)
  go_enter Tryz.func5, Tryz.ntmps5
  go_wp2_with fail
  go_ret2
  exact ⟨rfl, rfl⟩
end Go.Proofs.YtdgilloblfbklabGreatDoor.Own
