/-
  The walk of pointsmanlaw04.DiskFills: it answers true and writes nothing that was there.
-/
import Derived.Test.YthifgokfmomjgaaAlive
set_option linter.unusedVariables false
set_option linter.unusedSimpArgs false
namespace Go.Proofs.Ythifgokfmomjgaa
open Go.RowKit

theorem make_u8 (m : Nat) (h : m ≤ 16777216) (x : Int) (hx : x = (m : Int)) : ∀ W : World, (Instr.makeSlice 25 (.int .i64 x) (.int .i64 x)).run Try.prog W = .ok (.slice (some ⟨W.heap.size, 0, none⟩) m m) (W.alloc (.cells (madeCells #[.int .u8 0] m) 5)) := by
  subst hx
  intro W
  exact run_make_row' 25 5 (.int .u8 0) 1 Try.underlying25 info5 rfl .i64 .i64 m (by omega) (by omega) W
theorem reads_made (W : World) (e : TypeId) (k : IntKind) (m : Nat) (hm : m ≤ 9223372036854775807) : Reads (W.alloc (.cells (madeCells #[.int k 0] m) e)) k (some ⟨W.heap.size, 0, none⟩) m (List.replicate m 0) := by
  refine ⟨by simp, hm, fun _ => ⟨_, rfl, fun j hj => ?_⟩⟩
  rw [add_plain, cellOf (heap_alloc_new W (.cells (madeCells #[.int k 0] m) e)) j]
  simp [madeCells, hj, Nat.mod_one]

set_option maxHeartbeats 1600000 in
set_option maxRecDepth 100000 in
theorem fills_any (room : Int) (hr0 : 0 ≤ room) (hr1 : room ≤ 65535) (A : Option Addr) (n c : Nat) (zs : List Int) (w : World) (HR : Reads w .u16 A n zs) (hz : ∀ j, j < n → 0 ≤ zs.getD j 0 ∧ zs.getD j 0 ≤ 65535) :
    Calls Try.prog 4 #[.int .u16 room, .slice A n c] w fun e w' => e = .returned (.bool true) ∧ Below w.heap.size w w' := by
  have hn := HR.2.1
  have HA : Aside (Reads w .u16 A n zs ∧ ∀ j, j < n → 0 ≤ zs.getD j 0 ∧ zs.getD j 0 ≤ 65535) := ⟨HR, hz⟩
  clear HR hz
  go_enter Try.func4, Try.ntmps4
  go_wp2_with fail
  refine (DS.new w (by omega) (by omega)).mono ?_
  rintro e w1 ⟨rfl, h1⟩
  go_wp2_with fail
  refine (alive_any w1).mono ?_
  rintro e w2 ⟨rfl, hb2⟩
  have h2 := h1.grown hb2
  clear h1 hb2
  go_wp2
  go_loopw [7, 8] (fun u i wr => ∃ (k : Nat) (bs : List Int), k ≤ n ∧ k ≤ 200 ∧ i = .int .i64 k ∧ u = .int .i64 (bs.length : Int) ∧ (bs.length : Int) ≤ 1 + room ∧ DS w.heap.size w wr w.heap.size (1 + room) bs false none) (fun _ i _ => n - (intOf i).toNat)
  case atStart => exact ⟨0, [], Nat.zero_le _, by omega, rfl, rfl, by simp; omega, h2⟩
  case round =>
    obtain ⟨k, bs, hk, hk2, rfl, rfl, hle, hD⟩ := hrel
    clear h2
    by_cases hlt : k < n ∧ k < 200
    · obtain ⟨hlt, hlt2⟩ := hlt
      have hin := (HA.out.2 k hlt)
      obtain ⟨a, rfl, hca0⟩ := HA.out.1.at_ (k : Int) (by omega) (by omega)
      obtain ⟨x, hx⟩ : ∃ x : Nat, (x : Int) = zs.getD k 0 := ⟨(zs.getD k 0).toNat, by omega⟩
      simp only [Int.toNat_natCast, rd] at hca0
      have hblk : a.block < w.heap.size := HA.out.1.block_lt a rfl (by omega)
      have hca : wr.cell? (a.add k) = some (.int .u16 x) := by rw [hD.below.cell (by rw [add_block]; exact hblk), hca0, hx]
      have hx2 : (x : Int) ≤ 65535 := by omega
      clear hca0 hx hin
      have hk0 : (0 : Int) ≤ (k : Int) := by omega
      have hk1 : (k : Int) < (n : Int) := by omega
      have hm3 : x % 3000 < 3000 := Nat.mod_lt _ (by omega)
      have hmk := make_u8 (x % 3000) (by omega) ((x : Int) % 3000) (by omega)
      by_cases hfit : bs.length + x % 3000 ≤ (1 + room).toNat
      · go_wp2_with (go_at_call 8; refine (DS.appendOk (hD.alloc _) (reads_made _ 5 .u8 (x % 3000) (by omega)) (by omega) (by omega) (by omega)).mono ?_; rintro e w3 ⟨rfl, h3⟩)
        go_roundw
        case rel => exact ⟨k + 1, bs ++ List.replicate (x % 3000) 0, by omega, by omega, by go_num, by simp, by simp; omega, h3⟩
        case measure => simp [intOf]; omega
      · go_wp2_with (go_at_call 8; refine (DS.appendFull (hD.alloc _) (by omega) (by omega) (by omega) (by omega) (by omega)).mono ?_; rintro e w3 ⟨rfl, h3⟩)
        go_roundw
        case rel => exact ⟨k + 1, bs, by omega, by omega, by go_num, rfl, hle, h3⟩
        case measure => simp [intOf]; omega
    · go_wp2_with (go_at_call 13; refine (DS.bytes hD (by omega)).mono ?_; rintro e w3 ⟨v, rfl, hown, hb⟩; obtain ⟨A1, L1, c1, rfl, HL⟩ := own_form hown)
      all_goals go_ret
      all_goals exact ⟨by have := HL.out; subst this; simp, hD.below.trans (hb.mono hD.size)⟩
end Go.Proofs.Ythifgokfmomjgaa
