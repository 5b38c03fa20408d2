/-
  What came in: acts.
-/
import Derived.Test.YtdgilloblfbklabGreatDoorQ8
import Derived.Test.YtdgilloblfbklabGreatDoorCame
set_option linter.unusedVariables false
set_option linter.unusedSimpArgs false
namespace Go.Proofs.YtdgilloblfbklabGreatDoor.Own
open Go.RowKit Go.ChangeShapes

set_option maxRecDepth 100000 in
theorem came_act {H : Type} {enc : TypeId × Value → H} {W : World} {cs : List Value} (h : Came enc Tryz.prog W 72 cs) :
    ∃ (t : Act4) (B : Option Addr) (d : Nat), cs = [.bool t.1, .int .i64 t.2.1, .slice B t.2.2.1.length d, .int .i64 t.2.2.2] ∧ t.2.2.1.length ≤ d ∧ d ≤ 9223372036854775807 ∧ t.2.2.1.length ≤ 140737488351232 ∧ Reads W .u8 B t.2.2.1.length t.2.2.1 ∧ -9223372036854775808 ≤ t.2.2.2 ∧ t.2.2.2 ≤ 9223372036854775807 := by
  obtain ⟨hl, hf⟩ := h.struct Tryz.underlying72
  have h4c : Tryz.prog.cellsOf 72 = 4 := by kernel_rfl
  rw [h4c] at hl
  match cs, hl with
  | [x0, x1, x2, x3], _ =>
    have f0 : Came enc Tryz.prog W 4 (([x0, x1, x2, x3].drop 0).take (Tryz.prog.cellsOf 4)) := hf 0 _ rfl
    have f1 : Came enc Tryz.prog W 37 (([x0, x1, x2, x3].drop 1).take (Tryz.prog.cellsOf 37)) := hf 1 _ rfl
    have f2 : Came enc Tryz.prog W 3 (([x0, x1, x2, x3].drop 3).take (Tryz.prog.cellsOf 3)) := hf 2 _ rfl
    have c4 : Tryz.prog.cellsOf 4 = 1 := by kernel_rfl
    have c37 : Tryz.prog.cellsOf 37 = 2 := by kernel_rfl
    have c3 : Tryz.prog.cellsOf 3 = 1 := by kernel_rfl
    have c35 : Tryz.prog.cellsOf 35 = 1 := by kernel_rfl
    rw [c4] at f0
    rw [c37] at f1
    rw [c3] at f2
    obtain ⟨_, hg⟩ := f1.struct Tryz.underlying37
    have g0 : Came enc Tryz.prog W 3 (([x1, x2].drop 0).take (Tryz.prog.cellsOf 3)) := hg 0 _ rfl
    have g1 : Came enc Tryz.prog W 35 (([x1, x2].drop 1).take (Tryz.prog.cellsOf 35)) := hg 1 _ rfl
    rw [c3] at g0
    rw [c35] at g1
    obtain ⟨B, m, d, xs, h10, h11, h12, h13, h14, h15⟩ := g1.ints Tryz.underlying35 Tryz.underlying5 (by kernel_rfl)
    obtain ⟨y, hy, wy⟩ := g0.int Tryz.underlying3
    obtain ⟨k, hk⟩ := f0.bool Tryz.underlying4
    obtain ⟨z, hz, wz⟩ := f2.int Tryz.underlying3
    injection h10 with h10 _
    injection hy with hy _
    injection hk with hk _
    injection hz with hz _
    have hb1 : Tryz.prog.bytesOf 5 = 1 := by kernel_rfl
    rw [hb1] at h12 h13
    have hlx := h14.1
    have hzb := bd_i64 wz
    exact ⟨(k, y, xs, z), B, d, by rw [h10, hy, hk, hz, hlx], by simp only; omega, by omega, by simp only; omega, by simp only; rw [hlx]; exact h14, hzb.1, hzb.2⟩
set_option maxRecDepth 100000 in
theorem came_acts {H : Type} {enc : TypeId × Value → H} {W : World} {A : Option Addr} {n c : Nat} (h : Came enc Tryz.prog W 22 [.slice A n c]) :
    ∃ ac, ReadsActs W A n ac ∧ ∀ j, j < n → -9223372036854775808 ≤ (ac.getD j zAct).2.2.2 ∧ (ac.getD j zAct).2.2.2 ≤ 9223372036854775807 := by
  obtain ⟨A', n', c', h1, h2, h3, h4, h5, h6, h7⟩ := h.slice Tryz.underlying22
  injection h1 with h1 _
  injection h1 with h1 h1' h1''
  subst h1 h1' h1''
  have h4c : Tryz.prog.cellsOf 72 = 4 := by kernel_rfl
  rw [h4c] at h7
  unfold maxLen at h3
  rcases A with _ | ad
  · obtain ⟨rfl, _⟩ := h6 rfl
    exact ⟨[], ⟨rfl, by omega, fun h => by omega⟩, fun j hj => by omega⟩
  · obtain ⟨ts, hl, hx⟩ := list_of zAct n (p := fun i (t : Act4) => (∃ B d, W.cell? ((ad.add (i * 4)).add 0) = some (.bool t.1) ∧ W.cell? ((ad.add (i * 4)).add 1) = some (.int .i64 t.2.1) ∧ W.cell? ((ad.add (i * 4)).add 2) = some (.slice B t.2.2.1.length d) ∧ W.cell? ((ad.add (i * 4)).add 3) = some (.int .i64 t.2.2.2) ∧ t.2.2.1.length ≤ d ∧ d ≤ 9223372036854775807 ∧ t.2.2.1.length ≤ 140737488351232 ∧ Reads W .u8 B t.2.2.1.length t.2.2.1) ∧ -9223372036854775808 ≤ t.2.2.2 ∧ t.2.2.2 ≤ 9223372036854775807) (fun i hi => by
      obtain ⟨cs', h8, h9⟩ := h7 ad rfl i hi
      obtain ⟨_, _, hc⟩ := World.cells?_some h8
      obtain ⟨t, B, d, hx, e1, e2, e3, e4, e5, e6⟩ := came_act h9
      rw [hx] at hc
      exact ⟨t, ⟨B, d, hc 0 (by omega), hc 1 (by omega), hc 2 (by omega), hc 3 (by omega), e1, e2, e3, e4⟩, e5, e6⟩)
    refine ⟨ts, ⟨hl, by omega, fun hn => ?_⟩, fun j hj => (hx j hj).2⟩
    obtain ⟨b, off, spot⟩ := ad
    obtain ⟨⟨B0, d0, h0, _⟩, _⟩ := hx 0 hn
    have hs : spot = none := by simpa [Addr.add] using World.cell?_spot h0
    subst hs
    refine ⟨b, off, rfl, ?_, fun j hj => ?_⟩
    · have := World.block_lt_of_cell? W _ h0
      rwa [add_block, add_block] at this
    · obtain ⟨⟨B, d, e1, e2, e3, e4, r⟩, _⟩ := hx j hj
      rw [Addr.add_lit, Addr.add_lit] at e1 e2 e3 e4
      exact ⟨B, d, by simpa [Nat.add_assoc] using e1, by simpa [Nat.add_assoc] using e2, by simpa [Nat.add_assoc] using e3, by simpa [Nat.add_assoc] using e4, r⟩
end Go.Proofs.YtdgilloblfbklabGreatDoor.Own
