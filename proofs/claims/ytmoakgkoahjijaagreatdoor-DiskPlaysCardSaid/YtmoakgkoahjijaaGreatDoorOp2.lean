/-
  A disk that is not there: no pointer, or no room.
-/
import Derived.Test.YtmoakgkoahjijaaGreatDoorDOp
set_option linter.unusedVariables false
set_option linter.unusedSimpArgs false
set_option maxRecDepth 100000
namespace Go.Proofs.YtmoakgkoahjijaaGreatDoor
open Go.RowKit SumsMath
theorem ready_nil (w : World) : Calls Tryz.prog 140 #[.pointer none] w fun e w' => e = .returned (.int .i64 2) ∧ w = w' := by
  go_enter Tryz.func140, Tryz.ntmps140
  go_wp2
  go_ret
  exact ⟨rfl, rfl⟩
theorem ready_zero (g : Nat) (w : World) (h0 : w.cell? ⟨g, 0, none⟩ = some (.int .i64 0)) : Calls Tryz.prog 140 #[.pointer (some ⟨g, 0, none⟩)] w fun e w' => e = .returned (.int .i64 2) ∧ w = w' := by
  go_enter Tryz.func140, Tryz.ntmps140
  go_wp2
  go_ret
  exact ⟨rfl, rfl⟩
section
variable {w : World} {A : Option Addr} {m c : Nat} {xs : List Int} {P : Option Addr}
theorem trim_none (n : Int) (hr : Calls Tryz.prog 140 #[.pointer P] w fun e w' => e = .returned (.int .i64 2) ∧ w = w') : Calls Tryz.prog 28 #[.pointer P, .int .i64 n] w fun e w' => e = .returned (.int .i64 2) ∧ w = w' := by
  have HR := aside' hr
  clear hr
  go_enter Tryz.func28, Tryz.ntmps28
  go_wp2_with fail
  refine Calls.mono HR.out ?_
  rintro e w' ⟨rfl, rfl⟩
  go_wp2
  go_ret
  exact ⟨rfl, rfl⟩
theorem append_none (hr : Calls Tryz.prog 140 #[.pointer P] w fun e w' => e = .returned (.int .i64 2) ∧ w = w') : Calls Tryz.prog 34 #[.pointer P, .slice A m c] w fun e w' => e = .returned (.int .i64 2) ∧ w = w' := by
  have HR := aside' hr
  clear hr
  go_enter Tryz.func34, Tryz.ntmps34
  go_wp2_with fail
  refine Calls.mono HR.out ?_
  rintro e w' ⟨rfl, rfl⟩
  go_wp2
  go_ret
  exact ⟨rfl, rfl⟩
theorem up_none (hr : Calls Tryz.prog 140 #[.pointer P] w fun e w' => e = .returned (.int .i64 2) ∧ w = w') : Calls Tryz.prog 32 #[.pointer P] w fun e w' => e = .returned (.int .i64 2) ∧ w = w' := by
  have HR := aside' hr
  clear hr
  go_enter Tryz.func32, Tryz.ntmps32
  go_wp2_with fail
  refine Calls.mono HR.out ?_
  rintro e w' ⟨rfl, rfl⟩
  go_wp2
  go_ret
  exact ⟨rfl, rfl⟩
theorem fail_none (n : Int) (hr : ∀ w1, Below w.heap.size w w1 → Calls Tryz.prog 140 #[.pointer P] w1 fun e w' => e = .returned (.int .i64 2) ∧ w1 = w') : Calls Tryz.prog 30 #[.pointer P, .int .i64 n] w fun e w' => e = .returned (.int .i64 2) ∧ Below w.heap.size w w' := by
  have hb : Below w.heap.size w (w.alloc (.cells #[.int .i64 n] 3)) := (Below.refl _ _).alloc (Nat.le_refl _) _
  have HR := aside' (hr _ hb)
  clear hr
  go_enter Tryz.func30, Tryz.ntmps30
  go_wp2_with fail
  refine Calls.mono HR.out ?_
  rintro e w' ⟨rfl, rfl⟩
  go_wp2
  go_ret
  exact ⟨rfl, hb⟩
theorem down_none : Calls Tryz.prog 36 #[.pointer none] w fun e w' => e = .returned (.bool false) ∧ w = w' := by
  go_enter Tryz.func36, Tryz.ntmps36
  go_wp2
  go_ret
  exact ⟨rfl, rfl⟩
theorem bytes_none : Calls Tryz.prog 38 #[.pointer none] w fun e w' => e = .returned (.slice none 0 0) ∧ w = w' := by
  go_enter Tryz.func38, Tryz.ntmps38
  go_wp2
  go_ret
  exact ⟨rfl, rfl⟩
end
/-- A disk of no room, in a block of its own. -/
def Zero (W : World) (z : Nat) : Prop := W.heap[z]? = some (.cells #[.int .i64 0, .slice none 0 0, .bool false, .nilFunc] 94 (0, 0))
theorem Zero.later {W W' : World} {z : Nat} (h : Zero W z) (hb : Below W.heap.size W W') : Zero W' z := (hb.block z (Array.getElem?_eq_some_iff.1 h).1).trans h
theorem new_off (room : Int) (w : World) (h : room < 1 ∨ 16777216 < room) :
    Calls Tryz.prog 26 #[.int .i64 room] w fun e w' => e = .returned (.tuple #[.pointer none, .int .i64 1]) ∧ w = w' := by
  by_cases h1 : room < 1
  · have g1 : decide (room < 1) = true := decide_eq_true h1
    go_enter Tryz.func26, Tryz.ntmps26
    go_wp2
    go_ret2
    exact ⟨rfl, rfl⟩
  · have g1 : decide (room < 1) = false := decide_eq_false h1
    have g2 : decide (16777216 < room) = true := decide_eq_true (by omega)
    go_enter Tryz.func26, Tryz.ntmps26
    go_wp2
    go_ret2
    exact ⟨rfl, rfl⟩
end Go.Proofs.YtmoakgkoahjijaaGreatDoor
