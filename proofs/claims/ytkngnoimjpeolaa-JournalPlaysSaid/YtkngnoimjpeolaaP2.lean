/-
  The law JournalPlays: what came in, and its size.
-/
import Derived.Test.YtkngnoimjpeolaaP1
set_option linter.unusedVariables false
set_option linter.unusedSimpArgs false
namespace Go.Proofs.Ytkngnoimjpeolaa
open Go.RowKit SumsMath

theorem recs_short (bs : List Int) : ∀ x ∈ JMath.recsF (sumF 2) bs, x.length ≤ 65537 := by
  have key : ∀ (k : Nat) (bs : List Int), ∀ x ∈ JMath.recs (sumF 2) k bs, x.length ≤ 65537 := by
    intro k
    induction k with
    | zero => intro bs x hx; cases hx
    | succ k ih =>
      intro bs x hx
      rw [JMath.recs] at hx
      cases h : JMath.stepF (sumF 2) bs with
      | none => rw [h] at hx; cases hx
      | some n =>
        rw [h] at hx
        have hs := JMath.step_some (sumF 2) h
        rcases List.mem_cons.1 hx with rfl | hx
        · have := List.length_take_le n (bs.drop 8)
          omega
        · exact ih _ x hx
  exact key _ bs
theorem oOpen_short (S : Option DSt) : ∀ x ∈ (oOpen S).2.1, x.length ≤ 140737488351232 := by
  intro x hx
  cases S with
  | none => cases hx
  | some s =>
    unfold oOpen openF at hx
    simp only at hx
    split at hx
    · cases hx
    · have := recs_short s.bs x hx; omega
def zO : Int × Int × List Int := (0, 0, [])
def ReadsOps (w : World) (A : Option Addr) (n : Nat) (os : List (Int × Int × List Int)) : Prop :=
  os.length = n ∧ n ≤ 9223372036854775807 ∧ (0 < n → ∃ b off, A = some ⟨b, off, none⟩ ∧ b < w.heap.size ∧ ∀ j, j < n → ∃ B d,
    w.cell? ⟨b, off + j * 3, none⟩ = some (.int .u8 (os.getD j zO).1) ∧ w.cell? ⟨b, off + j * 3 + 1, none⟩ = some (.int .i64 (os.getD j zO).2.1) ∧ w.cell? ⟨b, off + j * 3 + 2, none⟩ = some (.slice B (os.getD j zO).2.2.length d) ∧
    (os.getD j zO).2.2.length ≤ d ∧ (os.getD j zO).2.2.length ≤ 140737488351232 ∧ Reads w .u8 B (os.getD j zO).2.2.length (os.getD j zO).2.2)
set_option maxRecDepth 100000 in
set_option maxHeartbeats 1600000 in
theorem size_any (A : Option Addr) (n c : Nat) (os : List (Int × Int × List Int)) (w : World) (hR : ReadsOps w A n os) (hn : n ≤ 140737488355328) :
    Calls Try.prog 17 #[.slice A n c] w fun e w' => ∃ T : Nat, e = .returned (.int .i64 T) ∧ T ≤ 281474977759232 ∧ w' = w := by
  have HR := aside' hR
  clear hR
  go_enter Try.func17, Try.ntmps17
  go_wp2
  go_loop [3, 4] (fun s i => ∃ k : Nat, k ≤ n ∧ i = .int .i64 k ∧ ∃ T : Nat, T ≤ 281474977759232 ∧ s = .int .i64 T) (fun _ i => n - (intOf i).toNat)
  case atStart => exact ⟨0, Nat.zero_le _, rfl, n, by omega, rfl⟩
  case round =>
    obtain ⟨k, hk, rfl, T, hT, rfl⟩ := hrel
    by_cases hlt : k < n
    · have g1 : decide ((k : Int) < (n : Int)) = true := decide_eq_true (by omega)
      by_cases hs : T < 1048576
      · have g2 : decide ((T : Int) < 1048576) = true := decide_eq_true (by omega)
        obtain ⟨xb, xo, rfl, hxb, hxs⟩ := HR.out.2.2 (by omega)
        obtain ⟨B, d, hc0, hc1, hc2, hd1, hd2, hrx⟩ := hxs k hlt
        generalize (os.getD k zO).2.2.length = xl at *
        have i0 : (0 : Int) ≤ (k : Int) := by omega
        have i1 : (k : Int) < (n : Int) := by omega
        clear hxs hc0 hc1 hrx
        go_wp2
        go_round
        case rel => exact ⟨k + 1, by omega, by go_num, T + xl, by omega, by go_num⟩
        case measure => (simp [intOf]; omega)
      · have g2 : decide ((T : Int) < 1048576) = false := decide_eq_false (by omega)
        go_wp2
        go_ret
        exact ⟨T, rfl, hT, rfl⟩
    · have g1 : decide ((k : Int) < (n : Int)) = false := decide_eq_false (by omega)
      go_wp2
      go_ret
      exact ⟨T, rfl, hT, rfl⟩

def S0 (room : Int) : Option DSt := if 1 ≤ room ∧ room ≤ 16777216 then some ⟨[], false, none⟩ else none
def NewD (w w' : World) (d : Option Addr) (room : Int) : Prop := Below w.heap.size w w' ∧ ((¬ (1 ≤ room ∧ room ≤ 16777216) ∧ d = none) ∨ ((1 ≤ room ∧ room ≤ 16777216) ∧ d = some ⟨w.heap.size, 0, none⟩ ∧ DAt (fun k => k = w.heap.size) w' w.heap.size room ⟨[], false, none⟩))
def NewR (w w' : World) (d : Option Addr) (room : Int) : Prop := Below w.heap.size w w' ∧ ((¬ (1 ≤ room ∧ room ≤ 16777216) ∧ d = none) ∨ ((1 ≤ room ∧ room ≤ 16777216) ∧ d = some ⟨w.heap.size, 0, none⟩ ∧ RAt (fun k => k = w.heap.size) w' w.heap.size room ⟨[], false, none⟩))
theorem New_any (room : Int) (w : World) : Calls Try.prog 12 #[.int .i64 room] w fun e w' => ∃ d E, e = .returned (.tuple #[.pointer d, .int .i64 E]) ∧ NewD w w' d room := by
  by_cases h : 1 ≤ room ∧ room ≤ 16777216
  · exact (New_ok room w h.1 h.2).mono fun e w' ⟨he, hD, hb⟩ => ⟨_, _, he, hb, .inr ⟨h, rfl, hD⟩⟩
  · exact (new_off room w (by omega)).mono fun e w' ⟨he, hw⟩ => ⟨_, _, he, hw ▸ Below.refl _ _, .inl ⟨h, rfl⟩⟩
theorem RNew_any (room : Int) (w : World) : Calls Try.prog 18 #[.int .i64 room] w fun e w' => ∃ d E, e = .returned (.tuple #[.pointer d, .int .i64 E]) ∧ NewR w w' d room := by
  by_cases h : 1 ≤ room ∧ room ≤ 16777216
  · exact (R_new room w h.1 h.2).mono fun e w' ⟨he, hD, hb⟩ => ⟨_, _, he, hb, .inr ⟨h, rfl, hD⟩⟩
  · exact (R_new_off room w (by omega)).mono fun e w' ⟨he, hw⟩ => ⟨_, _, he, hw ▸ Below.refl _ _, .inl ⟨h, rfl⟩⟩
theorem PR.start {w w1 w2 : World} {d r : Option Addr} {room : Int} (hD : NewD w w1 d room) (hR : NewR w1 w2 r room) : PR w (w2.alloc (.cells #[.int .i64 0, .slice none 0 0, .bool false, .nilFunc] 58)) w2.heap.size w2.heap.size (.cells #[.int .i64 0, .slice none 0 0, .bool false, .nilFunc] 58) d r room (S0 room) (S0 room) := by
  obtain ⟨b1, h1⟩ := hD
  obtain ⟨b2, h2⟩ := hR
  have hb : Below w.heap.size w w2 := b1.trans (b2.mono b1.size)
  have ha : Below w2.heap.size w2 (w2.alloc (.cells #[.int .i64 0, .slice none 0 0, .bool false, .nilFunc] 58)) := (Below.refl _ _).alloc (Nat.le_refl _) _
  refine ⟨heap_alloc_new w2 _, hb.alloc hb.size _, heap_alloc_new w2 _, hb.size, ?_⟩
  rcases h1 with ⟨n1, rfl⟩ | ⟨y1, rfl, D⟩
  · rcases h2 with ⟨_, rfl⟩ | ⟨y2, _⟩
    · unfold S0
      rw [if_neg n1]
      exact ⟨rfl, rfl⟩
    · exact absurd y2 n1
  · rcases h2 with ⟨n2, _⟩ | ⟨_, rfl, R⟩
    · exact absurd y1 n2
    · unfold S0
      rw [if_pos y1]
      have hi : Inv room ⟨[], false, none⟩ := ⟨y1.1, y1.2, bytes_of [] rfl, by simp; omega, fun n e => by cases e⟩
      refine ⟨hi, hi, _, _, _, _, rfl, rfl, DiskAt.later (DiskAt.later D b2) ha, R.later ha, ?_, ?_, ?_⟩
      · rintro k rfl
        have := D.2.1 w.heap.size rfl
        have := b2.size
        exact ⟨Nat.le_refl _, by omega, by omega⟩
      · rintro k rfl
        have := R.2.1 w1.heap.size rfl
        exact ⟨b1.size, by omega, by omega⟩
      · rintro k rfl h
        have := D.2.1 w.heap.size rfl
        omega
end Go.Proofs.Ytkngnoimjpeolaa
