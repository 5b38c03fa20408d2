/-
  The walk of the law SumsNames.
-/
import Derived.Test.YtjiljhijenbpbaaRef1
set_option linter.unusedVariables false
set_option linter.unusedSimpArgs false
namespace Go.Proofs.Ytjiljhijenbpbaa
open Go.RowKit SumsMath

theorem held_next {w u v : World} {a b c : Value} (h : (u.cell? ⟨w.heap.size, 0, none⟩ = some a ∧ u.cell? ⟨w.heap.size, 1, none⟩ = some b ∧ u.cell? ⟨w.heap.size, 2, none⟩ = some c) ∧ Below w.heap.size w u ∧ w.heap.size < u.heap.size) (hb : Below u.heap.size u v) :
    (v.cell? ⟨w.heap.size, 0, none⟩ = some a ∧ v.cell? ⟨w.heap.size, 1, none⟩ = some b ∧ v.cell? ⟨w.heap.size, 2, none⟩ = some c) ∧ Below w.heap.size w v ∧ w.heap.size < v.heap.size := by
  obtain ⟨⟨h1, h2, h3⟩, h4, h5⟩ := h
  have := hb.size
  exact ⟨⟨(hb.cell (p := ⟨_, _, _⟩) h5).trans h1, (hb.cell (p := ⟨_, _, _⟩) h5).trans h2, (hb.cell (p := ⟨_, _, _⟩) h5).trans h3⟩, h4.trans (hb.mono (by omega)), by omega⟩

set_option maxHeartbeats 3200000 in
theorem names_law (n : Int) (s : ByteArray) (a b c : Int) (ha : 0 ≤ a ∧ a ≤ 65535) (hb : 0 ≤ b ∧ b ≤ 65535) (hc : 0 ≤ c ∧ c ≤ 65535) (w : World) :
    Calls Try.prog 3 #[.int .i64 n, .string s, .agg #[.int .u16 a, .int .u16 b, .int .u16 c]] w fun e w' => e = .returned (.bool true) ∧ Below w.heap.size w w' := by
  have h0 := heap_alloc_new w (.cells #[.int .u16 a, .int .u16 b, .int .u16 c] 23 (0,0))
  have e0 : (w.alloc (.cells #[.int .u16 a, .int .u16 b, .int .u16 c] 23 (0,0))).drew.cell? ⟨w.heap.size, 0, none⟩ = some (.int .u16 a) := cellOf (w := (w.alloc (.cells #[.int .u16 a, .int .u16 b, .int .u16 c] 23 (0,0))).drew) h0 0
  have e1 : (w.alloc (.cells #[.int .u16 a, .int .u16 b, .int .u16 c] 23 (0,0))).drew.cell? ⟨w.heap.size, 1, none⟩ = some (.int .u16 b) := cellOf (w := (w.alloc (.cells #[.int .u16 a, .int .u16 b, .int .u16 c] 23 (0,0))).drew) h0 1
  have e2 : (w.alloc (.cells #[.int .u16 a, .int .u16 b, .int .u16 c] 23 (0,0))).drew.cell? ⟨w.heap.size, 2, none⟩ = some (.int .u16 c) := cellOf (w := (w.alloc (.cells #[.int .u16 a, .int .u16 b, .int .u16 c] 23 (0,0))).drew) h0 2
  have hB : Below w.heap.size w (w.alloc (.cells #[.int .u16 a, .int .u16 b, .int .u16 c] 23 (0,0))).drew := ((Below.refl _ _).alloc (Nat.le_refl _) _).drew
  have hs : w.heap.size < (w.alloc (.cells #[.int .u16 a, .int .u16 b, .int .u16 c] 23 (0,0))).drew.heap.size := by show w.heap.size < (w.alloc _).heap.size; simp
  generalize hV : (w.alloc (.cells #[.int .u16 a, .int .u16 b, .int .u16 c] 23 (0,0))) = V at *
  have HV : Aside ((w.alloc (.cells #[.int .u16 a, .int .u16 b, .int .u16 c] 23 (0,0))) = V) := hV
  clear hV h0
  go_enter Try.func3, Try.ntmps3
  go_wp2_with fail
  rw [HV.out]
  go_region_held3 (fun w' => (w'.cell? ⟨w.heap.size, 0, none⟩ = some (.int .u16 a) ∧ w'.cell? ⟨w.heap.size, 1, none⟩ = some (.int .u16 b) ∧ w'.cell? ⟨w.heap.size, 2, none⟩ = some (.int .u16 c)) ∧ Below w.heap.size w w' ∧ w.heap.size < w'.heap.size)
    (first | exact ⟨⟨e0, e1, e2⟩, hB, hs⟩ | assumption | exact held_next (by assumption) hb1)
    ((go_simp; (first
      | (go_at_call 10; refine (width_any n _).mono ?_; rintro e w1 ⟨rfl, hb1⟩)
      | (go_at_call 11; refine (refWidth_any n _).mono ?_; rintro e w1 ⟨rfl, rfl⟩)
      | (go_at_call 12; refine (name_any n _).mono ?_; rintro e w1 ⟨rfl, hb1⟩)
      | (go_at_call 13; refine (refName_any n _).mono ?_; rintro e w1 ⟨rfl, hb1⟩)
      | (go_at_call 14; refine (find_any s _).mono ?_; rintro e w1 ⟨rfl, hb1⟩)
      | (go_at_call 15; refine (refFind_any s _).mono ?_; rintro e w1 ⟨rfl, hb1⟩)
      | (go_at_call 16; refine (turn_any a b c ha hb hc _).mono ?_; rintro e w1 ⟨rfl, rfl⟩)
      | (go_at_call 17; refine (refTurn_any a b c ha hb hc _).mono ?_; rintro e w1 ⟨rfl, rfl⟩))))
  go_wp2
  go_ret
  rename_i hh
  exact ⟨rfl, hh.2.1⟩
end Go.Proofs.Ytjiljhijenbpbaa
