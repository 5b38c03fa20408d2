/-
  The contracts of package disk: what each method answers and what becomes of the disk's memory.
-/
import Derived.Test.YtmoakgkoahjijaaGreatDoorProg
import Derived.Test.YtmoakgkoahjijaaGreatDoorLib
set_option linter.unusedVariables false
set_option linter.unusedSimpArgs false
set_option maxRecDepth 100000
namespace Go.Proofs.YtmoakgkoahjijaaGreatDoor
open Go.RowKit

/-- The disk at block g: its room, its bytes, whether the power is off, the failure that is set. All its blocks are F's. -/
def DiskAt (F : Nat → Prop) (w : World) (g : Nat) (room : Int) (bs : List Int) (off : Bool) (fl : Option Int) : Prop :=
  F g ∧ (∀ k, F k → k < w.heap.size) ∧ ∃ v fv, w.heap[g]? = some (.cells #[.int .i64 room, v, .bool off, fv] 94 (0, 0)) ∧ w.ownsRow 0 5 1 v bs.length (nums .u8 bs) ∧
    (∀ k, v.ownBlock = some k → F k ∧ k ≠ g) ∧
    ((fl = none ∧ fv = .nilFunc) ∨ ∃ n c, fl = some n ∧ 0 ≤ n ∧ fv = .func (.func 141) #[] #[.pointer (some ⟨c, 0, none⟩)] ∧ F c ∧ c ≠ g ∧ v.ownBlock ≠ some c ∧ w.heap[c]? = some (.cells #[.int .i64 n] 3 (0, 0)))


theorem ready_any (g : Nat) (room : Int) (off : Bool) (w : World) (h0 : w.cell? ⟨g, 0, none⟩ = some (.int .i64 room)) (h2 : w.cell? ⟨g, 2, none⟩ = some (.bool off)) (hr : (room == 0) = false) :
    Calls Tryz.prog 140 #[.pointer (some ⟨g, 0, none⟩)] w fun e w' => e = .returned (.int .i64 (if off then 13 else 0)) ∧ w = w' := by
  cases off
  · go_enter Tryz.func140, Tryz.ntmps140
    go_wp2
    go_ret
    exact ⟨rfl, rfl⟩
  · go_enter Tryz.func140, Tryz.ntmps140
    go_wp2
    go_ret
    exact ⟨rfl, rfl⟩

theorem down_any (g : Nat) (off : Bool) (w : World) (h2 : w.cell? ⟨g, 2, none⟩ = some (.bool off)) :
    Calls Tryz.prog 36 #[.pointer (some ⟨g, 0, none⟩)] w fun e w' => e = .returned (.bool off) ∧ w = w' := by
  go_enter Tryz.func36, Tryz.ntmps36
  go_wp2
  go_ret
  exact ⟨rfl, rfl⟩

theorem new_any (room : Int) (w : World) (h1 : 1 ≤ room) (h2 : room ≤ 16777216) :
    Calls Tryz.prog 26 #[.int .i64 room] w fun e w' => e = .returned (.tuple #[.pointer (some ⟨w.heap.size, 0, none⟩), .int .i64 0]) ∧ w' = w.alloc (.cells #[.int .i64 room, .slice none 0 0, .bool false, .nilFunc] 94) := by
  go_enter Tryz.func26, Tryz.ntmps26
  go_wp2
  go_ret2
  exact ⟨rfl, rfl⟩
theorem new_none (w : World) :
    Calls Tryz.prog 26 #[.int .i64 0] w fun e w' => e = .returned (.tuple #[.pointer none, .int .i64 1]) ∧ w = w' := by
  go_enter Tryz.func26, Tryz.ntmps26
  go_wp2
  go_ret2
  exact ⟨rfl, rfl⟩

theorem up_any (g : Nat) (room : Int) (v fv : Value) (off : Bool) (w : World) (hb : w.heap[g]? = some (.cells #[.int .i64 room, v, .bool off, fv] 94 (0, 0))) (hr : (room == 0) = false) :
    Calls Tryz.prog 32 #[.pointer (some ⟨g, 0, none⟩)] w fun e w' => e = .returned (.int .i64 0) ∧ w' = (w.setCell ⟨g, 2, none⟩ (.bool false)).setCell ⟨g, 3, none⟩ .nilFunc := by
  have h0 : w.cell? ⟨g, 0, none⟩ = some (.int .i64 room) := cellOf hb 0
  have h2 : w.cell? ⟨g, 2, none⟩ = some (.bool off) := cellOf hb 2
  have h3 : w.cell? ⟨g, 3, none⟩ = some fv := cellOf hb 3
  have f2 := frozenOf hb 2
  have f3 := frozenOf hb 3
  clear hb
  cases off
  all_goals
    go_enter Tryz.func32, Tryz.ntmps32
    go_wp2_with (go_at_call 140; refine (ready_any g room _ _ h0 h2 hr).mono ?_; rintro e w' ⟨rfl, rfl⟩)
    go_wp2
    go_ret
    exact ⟨rfl, rfl⟩

theorem hmf {P : Program} : ∀ (fn : Fn) (first cap : Array Value) (w : World), (Instr.makeFunc fn first cap).run P w = .ok (.func fn first cap) w := fun _ _ _ _ => rfl

theorem fail_any (g : Nat) (room : Int) (v fv : Value) (n : Int) (w : World) (hb : w.heap[g]? = some (.cells #[.int .i64 room, v, .bool false, fv] 94 (0, 0))) (hr : (room == 0) = false) (hn : 0 ≤ n) :
    Calls Tryz.prog 30 #[.pointer (some ⟨g, 0, none⟩), .int .i64 n] w fun e w' => e = .returned (.int .i64 0) ∧ w' = (w.alloc (.cells #[.int .i64 n] 3)).setCell ⟨g, 3, none⟩ (.func (.func 141) #[] #[.pointer (some ⟨w.heap.size, 0, none⟩)]) := by
  have hb1 : (w.alloc (.cells #[.int .i64 n] 3)).heap[g]? = some (.cells #[.int .i64 room, v, .bool false, fv] 94 (0, 0)) := (Below.heap_alloc _ _ _ (Array.getElem?_eq_some_iff.1 hb).1).trans hb
  have h0 : (w.alloc (.cells #[.int .i64 n] 3)).cell? ⟨g, 0, none⟩ = some (.int .i64 room) := cellOf hb1 0
  have h2 : (w.alloc (.cells #[.int .i64 n] 3)).cell? ⟨g, 2, none⟩ = some (.bool false) := cellOf hb1 2
  have h3 : (w.alloc (.cells #[.int .i64 n] 3)).cell? ⟨g, 3, none⟩ = some fv := cellOf hb1 3
  have f3 := frozenOf hb1 3
  have hmk := @hmf Tryz.prog
  clear hb hb1
  go_enter Tryz.func30, Tryz.ntmps30
  go_wp2_with (go_at_call 140; refine (ready_any g room _ _ h0 h2 hr).mono ?_; rintro e w' ⟨rfl, rfl⟩)
  go_wp2
  go_ret
  exact ⟨rfl, rfl⟩

theorem trim_off (g : Nat) (room : Int) (n : Int) (w : World) (h0 : w.cell? ⟨g, 0, none⟩ = some (.int .i64 room)) (h2 : w.cell? ⟨g, 2, none⟩ = some (.bool true)) (hr : (room == 0) = false) :
    Calls Tryz.prog 28 #[.pointer (some ⟨g, 0, none⟩), .int .i64 n] w fun e w' => e = .returned (.int .i64 13) ∧ w = w' := by
  go_enter Tryz.func28, Tryz.ntmps28
  go_wp2_with (go_at_call 140; refine (ready_any g room _ _ h0 h2 hr).mono ?_; rintro e w' ⟨rfl, rfl⟩)
  go_wp2
  go_ret
  exact ⟨rfl, rfl⟩
theorem trim_no (g : Nat) (room : Int) (A : Option Addr) (m c : Nat) (n : Int) (w : World) (h0 : w.cell? ⟨g, 0, none⟩ = some (.int .i64 room)) (h1 : w.cell? ⟨g, 1, none⟩ = some (.slice A m c)) (h2 : w.cell? ⟨g, 2, none⟩ = some (.bool false)) (hr : (room == 0) = false)
    (hn : 0 ≤ n) (hm : (m : Int) < n) :
    Calls Tryz.prog 28 #[.pointer (some ⟨g, 0, none⟩), .int .i64 n] w fun e w' => e = .returned (.int .i64 1) ∧ w = w' := by
  go_enter Tryz.func28, Tryz.ntmps28
  go_wp2_with (go_at_call 140; refine (ready_any g room _ _ h0 h2 hr).mono ?_; rintro e w' ⟨rfl, rfl⟩)
  go_wp2
  go_ret
  exact ⟨rfl, rfl⟩
theorem trim_yes (g : Nat) (room : Int) (A : Option Addr) (m c : Nat) (n : Nat) (fv : Value) (w : World) (hb : w.heap[g]? = some (.cells #[.int .i64 room, .slice A m c, .bool false, fv] 94 (0, 0))) (hr : (room == 0) = false)
    (hm : n ≤ m) (hc : m ≤ c) (hlt : m ≤ 9223372036854775807) :
    Calls Tryz.prog 28 #[.pointer (some ⟨g, 0, none⟩), .int .i64 n] w fun e w' => e = .returned (.int .i64 0) ∧ w' = w.setCell ⟨g, 1, none⟩ (.slice A n c) := by
  have h0 : w.cell? ⟨g, 0, none⟩ = some (.int .i64 room) := cellOf hb 0
  have h1 : w.cell? ⟨g, 1, none⟩ = some (.slice A m c) := cellOf hb 1
  have h2 : w.cell? ⟨g, 2, none⟩ = some (.bool false) := cellOf hb 2
  have f1 := frozenOf hb 1
  have hn0 : (0 : Int) ≤ (n : Int) := by omega
  have hnm : (n : Int) ≤ (m : Int) := by omega
  have hnc : (n : Int) ≤ (c : Int) := by omega
  clear hb
  go_enter Tryz.func28, Tryz.ntmps28
  go_wp2_with (go_at_call 140; refine (ready_any g room _ _ h0 h2 hr).mono ?_; rintro e w' ⟨rfl, rfl⟩)
  go_wp2
  go_ret
  exact ⟨rfl, rfl⟩

/-- What stays of bytes that are written: the first n. -/
theorem fail1_any (A : Option Addr) (m c : Nat) (cb : Nat) (n : Int) (w : World) (hn : 0 ≤ n) (h : w.cell? ⟨cb, 0, none⟩ = some (.int .i64 n)) (hc : m ≤ c) (hlt : m ≤ 9223372036854775807) :
    Calls Tryz.prog 141 #[.slice A m c, .pointer (some ⟨cb, 0, none⟩)] w fun e w' => e = .returned (.slice A (min n.toNat m) c) ∧ w = w' := by
  by_cases hnm : n ≤ (m : Int)
  · have e : min n.toNat m = n.toNat := by omega
    rw [e]
    go_enter Tryz.func141, Tryz.ntmps141
    go_wp2
    go_ret
    exact ⟨rfl, rfl⟩
  · have e : min n.toNat m = m := by omega
    rw [e]
    go_enter Tryz.func141, Tryz.ntmps141
    go_wp2
    go_ret
    exact ⟨rfl, rfl⟩
end Go.Proofs.YtmoakgkoahjijaaGreatDoor
