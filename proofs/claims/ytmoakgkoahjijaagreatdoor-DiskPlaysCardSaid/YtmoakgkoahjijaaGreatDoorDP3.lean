/-
  The law DiskPlays: what came in, and its size; the disks at the start.
-/
import Derived.Test.YtmoakgkoahjijaaGreatDoorDP2
set_option linter.unusedVariables false
set_option linter.unusedSimpArgs false
set_option maxRecDepth 100000
namespace Go.Proofs.YtmoakgkoahjijaaGreatDoor
open Go.RowKit SumsMath

def zO : Int × Int × List Int := (0, 0, [])
def ReadsOps (w : World) (A : Option Addr) (n : Nat) (os : List (Int × Int × List Int)) : Prop :=
  os.length = n ∧ n ≤ 9223372036854775807 ∧ (0 < n → ∃ b off, A = some ⟨b, off, none⟩ ∧ b < w.heap.size ∧ ∀ j, j < n → ∃ B d,
    w.cell? ⟨b, off + j * 3, none⟩ = some (.int .u8 (os.getD j zO).1) ∧ w.cell? ⟨b, off + j * 3 + 1, none⟩ = some (.int .i64 (os.getD j zO).2.1) ∧ w.cell? ⟨b, off + j * 3 + 2, none⟩ = some (.slice B (os.getD j zO).2.2.length d) ∧
    (os.getD j zO).2.2.length ≤ d ∧ (os.getD j zO).2.2.length ≤ 140737488351232 ∧ Reads w .u8 B (os.getD j zO).2.2.length (os.getD j zO).2.2)
set_option maxRecDepth 100000 in
set_option maxHeartbeats 1600000 in
theorem size_any (A : Option Addr) (n c : Nat) (os : List (Int × Int × List Int)) (w : World) (hR : ReadsOps w A n os) (hn : n ≤ 140737488355328) :
    Calls Tryz.prog 25 #[.slice A n c] w fun e w' => ∃ T : Nat, e = .returned (.int .i64 T) ∧ T ≤ 281474977759232 ∧ (T < 1048576 → ∀ j, j < n → (os.getD j zO).2.2.length ≤ T) ∧ w' = w := by
  have HR := aside' hR
  clear hR
  go_enter Tryz.func25, Tryz.ntmps25
  go_wp2
  go_loop [3, 4] (fun s i => ∃ k : Nat, k ≤ n ∧ i = .int .i64 k ∧ ∃ T : Nat, T ≤ 281474977759232 ∧ s = .int .i64 T ∧ Aside (∀ j, j < k → (os.getD j zO).2.2.length ≤ T)) (fun _ i => n - (intOf i).toNat)
  case atStart => exact ⟨0, Nat.zero_le _, rfl, n, by omega, rfl, fun j hj => by omega⟩
  case round =>
    obtain ⟨k, hk, rfl, T, hT, rfl, HJ⟩ := hrel
    by_cases hlt : k < n
    · have g1 : decide ((k : Int) < (n : Int)) = true := decide_eq_true (by omega)
      by_cases hs : T < 1048576
      · have g2 : decide ((T : Int) < 1048576) = true := decide_eq_true (by omega)
        obtain ⟨xb, xo, rfl, hxb, hxs⟩ := HR.out.2.2 (by omega)
        obtain ⟨B, d, hc0, hc1, hc2, hd1, hd2, hrx⟩ := hxs k hlt
        have HJ2 : Aside (∀ j, j < k + 1 → (os.getD j zO).2.2.length ≤ T + (os.getD k zO).2.2.length) := fun j hj => by
          rcases Nat.lt_or_ge j k with h | h
          · have := HJ.out j h; omega
          · obtain rfl : j = k := by omega
            omega
        generalize (os.getD k zO).2.2.length = xl at *
        have i0 : (0 : Int) ≤ (k : Int) := by omega
        have i1 : (k : Int) < (n : Int) := by omega
        clear hxs hc0 hc1 hrx
        go_wp2
        go_round
        case rel => exact ⟨k + 1, by omega, by go_num, T + xl, by omega, by go_num, HJ2.out⟩
        case measure => (simp [intOf]; omega)
      · have g2 : decide ((T : Int) < 1048576) = false := decide_eq_false (by omega)
        go_wp2
        go_ret
        exact ⟨T, rfl, hT, fun h => by omega, rfl⟩
    · have g1 : decide ((k : Int) < (n : Int)) = false := decide_eq_false (by omega)
      go_wp2
      go_ret
      exact ⟨T, rfl, hT, fun _ j hj => HJ.out j (by omega), rfl⟩

def S0 (room : Int) : Option DSt := if 1 ≤ room ∧ room ≤ 16777216 then some ⟨[], false, none⟩ else none
def E0 (room : Int) : Int := if 1 ≤ room ∧ room ≤ 16777216 then 0 else 1
def NewD (w w' : World) (d : Option Addr) (room : Int) : Prop := Below w.heap.size w w' ∧ ((¬ (1 ≤ room ∧ room ≤ 16777216) ∧ d = none) ∨ ((1 ≤ room ∧ room ≤ 16777216) ∧ d = some ⟨w.heap.size, 0, none⟩ ∧ DAt (fun k => k = w.heap.size) w' w.heap.size room ⟨[], false, none⟩))
def NewR (w w' : World) (d : Option Addr) (room : Int) : Prop := Below w.heap.size w w' ∧ ((¬ (1 ≤ room ∧ room ≤ 16777216) ∧ d = none) ∨ ((1 ≤ room ∧ room ≤ 16777216) ∧ d = some ⟨w.heap.size, 0, none⟩ ∧ RAt (fun k => k = w.heap.size) w' w.heap.size room ⟨[], false, none⟩))
theorem New_any (room : Int) (w : World) : Calls Tryz.prog 26 #[.int .i64 room] w fun e w' => ∃ d, e = .returned (.tuple #[.pointer d, .int .i64 (E0 room)]) ∧ NewD w w' d room := by
  unfold E0
  by_cases h : 1 ≤ room ∧ room ≤ 16777216
  · rw [if_pos h]; exact (New_ok room w h.1 h.2).mono fun e w' ⟨he, hD, hb⟩ => ⟨_, he, hb, .inr ⟨h, rfl, hD⟩⟩
  · rw [if_neg h]; exact (new_off room w (by omega)).mono fun e w' ⟨he, hw⟩ => ⟨_, he, hw ▸ Below.refl _ _, .inl ⟨h, rfl⟩⟩
theorem RNew_any (room : Int) (w : World) : Calls Tryz.prog 27 #[.int .i64 room] w fun e w' => ∃ d, e = .returned (.tuple #[.pointer d, .int .i64 (E0 room)]) ∧ NewR w w' d room := by
  unfold E0
  by_cases h : 1 ≤ room ∧ room ≤ 16777216
  · rw [if_pos h]; exact (R_new room w h.1 h.2).mono fun e w' ⟨he, hD, hb⟩ => ⟨_, he, hb, .inr ⟨h, rfl, hD⟩⟩
  · rw [if_neg h]; exact (R_new_off room w (by omega)).mono fun e w' ⟨he, hw⟩ => ⟨_, he, hw ▸ Below.refl _ _, .inl ⟨h, rfl⟩⟩
theorem bytes_nil : Bytes [] := fun j => by simp
theorem PD.start {w w1 w2 : World} {d r : Option Addr} {room : Int} (hD : NewD w w1 d room) (hR : NewR w1 w2 r room) :
    PD w.heap.size (fun _ => False) w2 d r room (S0 room) (S0 room) ∧ Below w.heap.size w w2 ∧ ((d = none ∧ r = none) ∨ ∃ a c, d = some a ∧ r = some c) := by
  obtain ⟨b1, h1⟩ := hD
  obtain ⟨b2, h2⟩ := hR
  have hb : Below w.heap.size w w2 := b1.trans (b2.mono b1.size)
  rcases h1 with ⟨n1, rfl⟩ | ⟨y1, rfl, D⟩
  · rcases h2 with ⟨_, rfl⟩ | ⟨y2, _⟩
    · refine ⟨⟨hb.size, fun _ h => h.elim, ?_⟩, hb, .inl ⟨rfl, rfl⟩⟩
      unfold S0
      rw [if_neg n1]
      exact ⟨rfl, rfl⟩
    · exact absurd y2 n1
  · rcases h2 with ⟨n2, _⟩ | ⟨_, rfl, R⟩
    · exact absurd y1 n2
    · refine ⟨⟨hb.size, fun _ h => h.elim, ?_⟩, hb, .inr ⟨_, _, rfl, rfl⟩⟩
      unfold S0
      rw [if_pos y1]
      have hi : Inv room ⟨[], false, none⟩ := ⟨y1.1, y1.2, bytes_nil, by simp; omega, fun n e => by cases e⟩
      refine ⟨hi, hi, _, _, _, _, rfl, rfl, DiskAt.later D b2, R, ?_, ?_, ?_⟩
      · rintro k rfl
        exact ⟨Nat.le_refl _, fun h => h⟩
      · rintro k rfl
        exact ⟨b1.size, fun h => h⟩
      · rintro k rfl h
        have := D.2.1 w.heap.size rfl
        omega
def zeroCells : Array Value := #[.int .i64 0, .slice none 0 0, .bool false, .nilFunc]
theorem MI.start {w w2 : World} {d r : Option Addr} {room : Int} {S : Option DSt} (hp : PD w.heap.size (fun _ => False) w2 d r room S S) (hb : Below w.heap.size w w2) :
    MI w (((w2.alloc (.cells zeroCells 94)).alloc (.cells (bookCells 0 (.slice none 0 0)) 61)).setRow (w2.heap.size + 1) (bookCells 0 (.slice none 0 0))) w2.heap.size (w2.heap.size + 1) d r room S S (.slice none 0 0) [] (fun _ _ => False) (fun _ => 0) (fun _ => False) := by
  have h1 : Below w2.heap.size w2 (w2.alloc (.cells zeroCells 94)) := (Below.refl _ _).alloc (Nat.le_refl _) _
  have hs := Bs.zero (w2.alloc (.cells zeroCells 94)) w.heap.size (Nat.le_trans hb.size h1.size)
  have hsz : (w2.alloc (.cells zeroCells 94)).heap.size = w2.heap.size + 1 := by simp
  rw [hsz] at hs
  obtain ⟨hs, hf⟩ := hs
  have hf2 : Foot (fun _ => False) w2 (((w2.alloc (.cells zeroCells 94)).alloc (.cells (bookCells 0 (.slice none 0 0)) 61)).setRow (w2.heap.size + 1) (bookCells 0 (.slice none 0 0))) := (Foot.ofBelow h1 (fun _ => False)).trans hf (fun _ h => h.elim)
  have hlb := (Array.getElem?_eq_some_iff.1 hs.bk.hb).1
  refine ⟨hs, hf.blk (heap_alloc_new w2 _) (fun h => h), ?_, fun _ h => h.elim, hb.trans (hf2.below (fun _ h => h.elim) hb.size), hp.renew hf2 (fun _ _ h => h.elim) ?_⟩
  · rintro (h | h | ⟨i, h⟩)
    · omega
    · simp [Value.ownBlock] at h
    · exact h
  · rintro k (h | rfl | h | h | ⟨i, h⟩)
    · exact h.elim
    · exact ⟨by omega, .inr (Nat.le_refl _)⟩
    · subst h; exact ⟨hlb, .inr (by omega)⟩
    · simp [Value.ownBlock] at h
    · exact h.elim
end Go.Proofs.YtmoakgkoahjijaaGreatDoor
