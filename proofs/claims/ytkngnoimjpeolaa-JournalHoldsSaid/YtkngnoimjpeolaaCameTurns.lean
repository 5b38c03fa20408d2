/-
  Turns that came in, opened: bytes and a failure each.
-/
import Derived.Test.YtkngnoimjpeolaaCame
import Derived.Test.YtkngnoimjpeolaaJHolds0
set_option linter.unusedVariables false
set_option linter.unusedSimpArgs false
namespace Go.Proofs.Ytkngnoimjpeolaa
open Go.RowKit Go.ChangeShapes SumsMath

theorem came_turn {H : Type} {enc : TypeId × Value → H} {W : World} {cs : List Value} (h : Came enc Try.prog W 37 cs) :
    ∃ (t : List Int × Int) (B : Option Addr) (d : Nat), cs = [.slice B t.1.length d, .int .i64 t.2] ∧ t.1.length ≤ d ∧ t.1.length ≤ 140737488351232 ∧ Reads W .u8 B t.1.length t.1 ∧ Bytes t.1 ∧ t.2 ≤ 9223372036854775807 := by
  obtain ⟨hl, hf⟩ := h.struct Try.underlying37
  have h2c : Try.prog.cellsOf 37 = 2 := by kernel_rfl
  rw [h2c] at hl
  match cs, hl with
  | [x0, x1], _ =>
    have f0 : Came enc Try.prog W 26 (([x0, x1].drop 0).take (Try.prog.cellsOf 26)) := hf 0 _ rfl
    have f1 : Came enc Try.prog W 3 (([x0, x1].drop 1).take (Try.prog.cellsOf 3)) := hf 1 _ rfl
    have c26 : Try.prog.cellsOf 26 = 1 := by kernel_rfl
    have c3 : Try.prog.cellsOf 3 = 1 := by kernel_rfl
    rw [c26] at f0
    rw [c3] at f1
    obtain ⟨B, m, d, xs, h10, h11, h12, h13, h14, h15⟩ := f0.ints Try.underlying26 Try.underlying5 (by kernel_rfl)
    obtain ⟨y, hy, wy⟩ := f1.int Try.underlying3
    injection h10 with h10 _
    injection hy with hy _
    have hb1 : Try.prog.bytesOf 5 = 1 := by kernel_rfl
    rw [hb1] at h12
    have hlx := h14.1
    refine ⟨(xs, y), B, d, by rw [h10, hy, hlx], by simp only; omega, by simp only; omega, by simp only; rw [hlx]; exact h14, fun j => ?_, (bd_i64 wy).2⟩
    by_cases hj : j < m
    · exact bd_u8 (h15 j hj)
    · simp only
      rw [List.getD_eq_getElem?_getD, List.getElem?_eq_none (by omega)]; exact ⟨by decide, by decide⟩
theorem came_turns {H : Type} {enc : TypeId × Value → H} {W : World} {A : Option Addr} {n c : Nat} (h : Came enc Try.prog W 35 [.slice A n c]) :
    ∃ ts, ReadsTurns W A n ts ∧ (∀ j, j < ts.length → Bytes (ts.getD j zT).1) ∧ n ≤ 140737488355328 ∧ ∀ j, j < ts.length → (ts.getD j zT).2 ≤ 9223372036854775807 := by
  obtain ⟨A', n', c', h1, h2, h3, h4, h5, h6, h7⟩ := h.slice Try.underlying35
  injection h1 with h1 _
  injection h1 with h1 h1' h1''
  subst h1 h1' h1''
  have hb : Try.prog.bytesOf 37 = 32 := by kernel_rfl
  have h2c : Try.prog.cellsOf 37 = 2 := by kernel_rfl
  rw [hb] at h4
  rw [h2c] at h7
  unfold maxLen at h3
  rcases A with _ | ad
  · obtain ⟨rfl, _⟩ := h6 rfl
    exact ⟨[], ⟨rfl, by omega, fun h => by omega⟩, fun j hj => by simp at hj, by omega, fun j hj => by simp at hj⟩
  · obtain ⟨ts, hl, hx⟩ := list_of zT n (p := fun i t => (∃ B d, W.cell? ((ad.add (i * 2)).add 0) = some (.slice B t.1.length d) ∧ W.cell? ((ad.add (i * 2)).add 1) = some (.int .i64 t.2) ∧ t.1.length ≤ d ∧ t.1.length ≤ 140737488351232 ∧ Reads W .u8 B t.1.length t.1) ∧ Bytes t.1 ∧ t.2 ≤ 9223372036854775807) (fun i hi => by
      obtain ⟨cs', h8, h9⟩ := h7 ad rfl i hi
      obtain ⟨_, _, hc⟩ := World.cells?_some h8
      obtain ⟨t, B, d, hx, e1, e2, e3, e4, e5⟩ := came_turn h9
      rw [hx] at hc
      exact ⟨t, ⟨B, d, hc 0 (by omega), hc 1 (by omega), e1, e2, e3⟩, e4, e5⟩)
    refine ⟨ts, ⟨hl, by omega, fun hn => ?_⟩, fun j hj => (hx j (by omega)).2.1, by omega, fun j hj => (hx j (by omega)).2.2⟩
    obtain ⟨b, off, spot⟩ := ad
    obtain ⟨⟨B0, d0, h0, _⟩, _⟩ := hx 0 hn
    have hs : spot = none := by simpa [Addr.add] using World.cell?_spot h0
    subst hs
    refine ⟨b, off, rfl, ?_, fun j hj => ?_⟩
    · have := World.block_lt_of_cell? W _ h0
      rwa [add_block, add_block] at this
    · obtain ⟨⟨B, d, e1, e2, e3⟩, _⟩ := hx j hj
      rw [Addr.add_lit, Addr.add_lit] at e1 e2
      exact ⟨B, d, by simpa [Nat.add_assoc] using e1, by simpa [Nat.add_assoc] using e2, e3⟩
end Go.Proofs.Ytkngnoimjpeolaa
