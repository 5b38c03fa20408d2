/-
  The contracts of package disk: Append, Bytes.
-/
import Derived.Test.YtmoakgkoahjijaaGreatDoorDisk
set_option linter.unusedVariables false
set_option linter.unusedSimpArgs false
set_option maxRecDepth 100000
namespace Go.Proofs.YtmoakgkoahjijaaGreatDoor
open Go.RowKit

theorem info5 : (Tryz.prog.info? 5).map (fun i => (i.zero, i.size, i.bytes)) = some (some (.int .u8 0), 1, 1) := by kernel_rfl

theorem neq_nilFunc (w : World) : (binOp .neq 66 .nilFunc .nilFunc).run Tryz.prog w = .ok (.bool false) w := by kernel_rfl
theorem neq_func (fn : Fn) (x y : Array Value) (w : World) : (binOp .neq 66 (.func fn x y) .nilFunc).run Tryz.prog w = .ok (.bool true) w := by kernel_rfl

theorem bytes_any (g : Nat) (A : Option Addr) (m c : Nat) (bs : List Int) (w : World) (h1 : w.cell? ⟨g, 1, none⟩ = some (.slice A m c)) (HR : Reads w .u8 A m bs) (hm : m ≤ 16777216) :
    Calls Tryz.prog 38 #[.pointer (some ⟨g, 0, none⟩)] w fun e w' => ∃ v, e = .returned v ∧ w'.ownsRow w.heap.size 5 1 v bs.length (nums .u8 bs) ∧ Below w.heap.size w w' := by
  go_enter Tryz.func38, Tryz.ntmps38
  go_wp2_with (at_builtin; refine append_row w.heap.size rfl _ _ 24 5 .u8 1 rfl Tryz.underlying24 info5 (by omega) (.slice none 0 0) [] bs A m c rfl rfl (by simpa [nums] using World.ownsRow_nil _ _ _ _) HR (Nat.le_refl _) (by simp; omega) ?_)
  intro v1 w1 hown hg _
  go_wp2
  go_ret
  exact ⟨_, rfl, by simpa using hown, (Below.refl _ _).grown hg (Nat.le_refl _) (by intro k hk; simp [Value.ownBlock] at hk)⟩

theorem append_off (g : Nat) (room : Int) (A : Option Addr) (m c : Nat) (w : World) (h0 : w.cell? ⟨g, 0, none⟩ = some (.int .i64 room)) (h2 : w.cell? ⟨g, 2, none⟩ = some (.bool true)) (hr : (room == 0) = false) :
    Calls Tryz.prog 34 #[.pointer (some ⟨g, 0, none⟩), .slice A m c] w fun e w' => e = .returned (.int .i64 13) ∧ w = w' := by
  go_enter Tryz.func34, Tryz.ntmps34
  go_wp2_with (go_at_call 140; refine (ready_any g room _ _ h0 h2 hr).mono ?_; rintro e w' ⟨rfl, rfl⟩)
  go_wp2
  go_ret
  exact ⟨rfl, rfl⟩

theorem append_full (g : Nat) (room : Int) (D : Option Addr) (n d : Nat) (A : Option Addr) (m c : Nat) (w : World) (h0 : w.cell? ⟨g, 0, none⟩ = some (.int .i64 room)) (h1 : w.cell? ⟨g, 1, none⟩ = some (.slice D n d)) (h2 : w.cell? ⟨g, 2, none⟩ = some (.bool false)) (hr : (room == 0) = false)
    (hr1 : 0 ≤ room) (hr2 : room ≤ 16777216) (hn : n ≤ 16777216) (hm : m ≤ 9223372036854775807) (hfull : room - (n : Int) < (m : Int)) :
    Calls Tryz.prog 34 #[.pointer (some ⟨g, 0, none⟩), .slice A m c] w fun e w' => e = .returned (.int .i64 10) ∧ ∃ q, w' = w.drewN q := by
  go_enter Tryz.func34, Tryz.ntmps34
  go_wp2_with (go_at_call 140; refine (ready_any g room _ _ h0 h2 hr).mono ?_; rintro e w' ⟨rfl, rfl⟩)
  go_quiet (fail)
  go_wp2
  go_ret
  exact ⟨rfl, _, rfl⟩

theorem append_ok (g : Nat) (room : Int) (v : Value) (bs ys : List Int) (A : Option Addr) (m c : Nat) (w : World) (hb : w.heap[g]? = some (.cells #[.int .i64 room, v, .bool false, .nilFunc] 94 (0, 0))) (hr : (room == 0) = false)
    (hown : w.ownsRow 0 5 1 v bs.length (nums .u8 bs)) (HR : Reads w .u8 A m ys) (hne : ∀ k, v.ownBlock = some k → k ≠ g)
    (hr1 : 0 ≤ room) (hr2 : room ≤ 16777216) (hroom : (m : Int) ≤ room - (bs.length : Int)) :
    Calls Tryz.prog 34 #[.pointer (some ⟨g, 0, none⟩), .slice A m c] w fun e w' => e = .returned (.int .i64 0) ∧ ∃ v1 w1, w1.ownsRow 0 5 1 v1 (bs ++ ys).length (nums .u8 (bs ++ ys)) ∧ w.grownBy w1 v.ownBlock ∧ (v1.ownBlock = v.ownBlock ∨ v1.ownBlock = some w.heap.size) ∧
      w' = w1.setCell ⟨g, 1, none⟩ v1 := by
  obtain ⟨D, d, rfl, hnd, HD⟩ := own_reads hown
  have hlt := (Array.getElem?_eq_some_iff.1 hb).1
  have h0 : w.cell? ⟨g, 0, none⟩ = some (.int .i64 room) := cellOf hb 0
  have h1 : w.cell? ⟨g, 1, none⟩ = some (.slice D bs.length d) := cellOf hb 1
  have h2 : w.cell? ⟨g, 2, none⟩ = some (.bool false) := cellOf hb 2
  have h3 : w.cell? ⟨g, 3, none⟩ = some .nilFunc := cellOf hb 3
  have hbl : bs.length ≤ 16777216 := by omega
  have hml : m ≤ 16777216 := by omega
  have HB : Aside (w.heap[g]? = some (.cells #[.int .i64 room, .slice D bs.length d, .bool false, .nilFunc] 94 (0, 0))) := hb
  have HO : Aside (w.ownsRow 0 5 1 (.slice D bs.length d) bs.length (nums .u8 bs)) := hown
  have HRA : Aside (Reads w .u8 A m ys) := HR
  have HNE : Aside (∀ k, (Value.slice D bs.length d).ownBlock = some k → k ≠ g) := hne
  clear hb hown HR hne HD
  have hq := neq_nilFunc
  go_enter Tryz.func34, Tryz.ntmps34
  go_wp2_with (go_at_call 140; refine (ready_any g room _ _ h0 h2 hr).mono ?_; rintro e w' ⟨rfl, rfl⟩)
  go_quiet (fail)
  go_wp2_with (at_builtin; refine append_row 0 rfl _ _ 24 5 .u8 1 rfl Tryz.underlying24 info5 (by omega) (.slice D bs.length d) bs ys A m c rfl rfl HO.out HRA.out (Nat.zero_le _) (by omega) ?_)
  intro v1 w1 hown1 hg1 hat1
  obtain ⟨A1, L1, k1, rfl, HL1⟩ := own_form hown1
  have hb1 : w1.heap[g]? = some (.cells #[.int .i64 room, .slice D bs.length d, .bool false, .nilFunc] 94 (0, 0)) := (hg1.block g hlt (fun e => HNE.out g e.symm rfl)).trans HB.out
  have c1 : w1.cell? ⟨g, 1, none⟩ = some (.slice D bs.length d) := cellOf hb1 1
  have f1 := frozenOf hb1 1
  clear hb1
  go_wp2
  go_ret
  exact ⟨rfl, _, w1, by simpa using hown1, ⟨hg1.os, hg1.tape, hg1.output, hg1.size, hg1.block⟩, hat1, rfl⟩

set_option maxHeartbeats 1600000 in
theorem append_fail (g : Nat) (room : Int) (v : Value) (bs ys : List Int) (n : Int) (cb : Nat) (A : Option Addr) (m c : Nat) (w : World)
    (hb : w.heap[g]? = some (.cells #[.int .i64 room, v, .bool false, .func (.func 141) #[] #[.pointer (some ⟨cb, 0, none⟩)]] 94 (0, 0))) (hr : (room == 0) = false)
    (hcb : w.heap[cb]? = some (.cells #[.int .i64 n] 3 (0, 0))) (hn : 0 ≤ n)
    (hown : w.ownsRow 0 5 1 v bs.length (nums .u8 bs)) (HR : Reads w .u8 A m ys) (hmc : m ≤ c) (hne : ∀ k, v.ownBlock = some k → k ≠ g) (hneC : ∀ k, v.ownBlock = some k → k ≠ cb)
    (hr1 : 0 ≤ room) (hr2 : room ≤ 16777216) (hroom : (m : Int) ≤ room - (bs.length : Int)) :
    Calls Tryz.prog 34 #[.pointer (some ⟨g, 0, none⟩), .slice A m c] w fun e w' => e = .returned (.int .i64 13) ∧ ∃ v1 w1, w1.ownsRow 0 5 1 v1 (bs ++ ys.take n.toNat).length (nums .u8 (bs ++ ys.take n.toNat)) ∧ w.grownBy w1 v.ownBlock ∧
      (v1.ownBlock = v.ownBlock ∨ v1.ownBlock = some w.heap.size) ∧ w' = ((w1.setCell ⟨g, 1, none⟩ v1).setCell ⟨g, 2, none⟩ (.bool true)).setCell ⟨g, 3, none⟩ .nilFunc := by
  obtain ⟨D, d, rfl, hnd, HD⟩ := own_reads hown
  have hlt := (Array.getElem?_eq_some_iff.1 hb).1
  have h0 : w.cell? ⟨g, 0, none⟩ = some (.int .i64 room) := cellOf hb 0
  have h1 : w.cell? ⟨g, 1, none⟩ = some (.slice D bs.length d) := cellOf hb 1
  have h2 : w.cell? ⟨g, 2, none⟩ = some (.bool false) := cellOf hb 2
  have h3 : w.cell? ⟨g, 3, none⟩ = some (.func (.func 141) #[] #[.pointer (some ⟨cb, 0, none⟩)]) := cellOf hb 3
  have hcc : w.cell? ⟨cb, 0, none⟩ = some (.int .i64 n) := cellOf hcb 0
  have hbl : bs.length ≤ 16777216 := by omega
  have hml : m ≤ 16777216 := by omega
  have hyl : ys.length = m := HR.1
  have HT : Aside (Reads w .u8 A (min n.toNat m) (ys.take n.toNat)) := by
    have := HR.take_ (min n.toNat m) (by omega)
    rw [← hyl, ← List.take_eq_take_min, hyl] at this
    exact this
  have HB : Aside (w.heap[g]? = some (.cells #[.int .i64 room, .slice D bs.length d, .bool false, .func (.func 141) #[] #[.pointer (some ⟨cb, 0, none⟩)]] 94 (0, 0))) := hb
  have HO : Aside (w.ownsRow 0 5 1 (.slice D bs.length d) bs.length (nums .u8 bs)) := hown
  have HNE : Aside (∀ k, (Value.slice D bs.length d).ownBlock = some k → k ≠ g) := hne
  have HNC : Aside (∀ k, (Value.slice D bs.length d).ownBlock = some k → k ≠ cb) := hneC
  have HLT : Aside (g < w.heap.size) := hlt
  clear hb hcb hown HR hne HD hyl hneC hlt
  have hq := fun x y => neq_func (.func 141) x y
  have hle : min n.toNat m ≤ m := Nat.min_le_right _ _
  generalize hk : min n.toNat m = k at HT hle
  have HK : Aside (min n.toNat m = k) := hk
  clear hk
  go_enter Tryz.func34, Tryz.ntmps34
  go_wp2_with (go_at_call 140; refine (ready_any g room _ _ h0 h2 hr).mono ?_; rintro e w' ⟨rfl, rfl⟩)
  go_quiet (fail)
  go_wp2_with fail
  go_region_law ((first
      | (refine step_append_row 0 (by rfl) _ _ 24 5 .u8 1 (by rfl) Tryz.underlying24 info5 (by omega) (.slice D bs.length d) bs (ys.take n.toNat) A k c (by rfl) (by rfl) (by exact HO.out) (by exact HT.out) (Nat.zero_le _) (by omega) ?_; intro v1 w1 hown1 hg1 hat1; obtain ⟨A1, L1, k1, rfl, HL1⟩ := own_form hown1; have HB1 : Aside (w1.heap[g]? = some (.cells #[.int .i64 room, .slice D bs.length d, .bool false, .func (.func 141) #[] #[.pointer (some ⟨cb, 0, none⟩)]] 94 (0, 0))) := (hg1.block g HLT.out (fun e => HNE.out g e.symm rfl)).trans HB.out; have kA : w1.cell? ⟨g, 1, none⟩ = some (.slice D bs.length d) := cellOf HB1.out 1; have k2 : w1.cell? ⟨g, 2, none⟩ = some (.bool false) := cellOf HB1.out 2; have k3 : w1.cell? ⟨g, 3, none⟩ = some (.func (.func 141) #[] #[.pointer (some ⟨cb, 0, none⟩)]) := cellOf HB1.out 3; have kf := frozenOf HB1.out 1; have kf2 := frozenOf HB1.out 2; have kf3 := frozenOf HB1.out 3)
      | (go_simp; go_at_call 141; refine (fail1_any A m c cb n _ hn ?_ hmc (by omega)).mono ?_; (simp [*]); rintro e w' ⟨rfl, rfl⟩; rw [HK.out])))
  all_goals go_wp2
  all_goals go_ret
  all_goals exact ⟨rfl, _, w1, hown1, ⟨hg1.os, hg1.tape, hg1.output, hg1.size, hg1.block⟩, hat1, rfl⟩
end Go.Proofs.YtmoakgkoahjijaaGreatDoor
