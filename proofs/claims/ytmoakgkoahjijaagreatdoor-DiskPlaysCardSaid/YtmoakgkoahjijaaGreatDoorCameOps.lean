/-
  Ops that came in, opened: a kind, a number and bytes each.
-/
import Derived.Test.YtmoakgkoahjijaaGreatDoorCame
import Derived.Test.YtmoakgkoahjijaaGreatDoorDP3
set_option linter.unusedVariables false
set_option linter.unusedSimpArgs false
namespace Go.Proofs.YtmoakgkoahjijaaGreatDoor
open Go.RowKit Go.ChangeShapes SumsMath

set_option maxRecDepth 100000 in
theorem came_op {H : Type} {enc : TypeId × Value → H} {W : World} {cs : List Value} (h : Came enc Tryz.prog W 96 cs) :
    ∃ (t : Int × Int × List Int) (B : Option Addr) (d : Nat), cs = [.int .u8 t.1, .int .i64 t.2.1, .slice B t.2.2.length d] ∧ t.2.2.length ≤ d ∧ t.2.2.length ≤ 140737488351232 ∧ Reads W .u8 B t.2.2.length t.2.2 ∧ Bytes t.2.2 ∧ 0 ≤ t.1 ∧ t.1 ≤ 255 := by
  obtain ⟨hl, hf⟩ := h.struct Tryz.underlying96
  have h3c : Tryz.prog.cellsOf 96 = 3 := by kernel_rfl
  rw [h3c] at hl
  match cs, hl with
  | [x0, x1, x2], _ =>
    have f0 : Came enc Tryz.prog W 5 (([x0, x1, x2].drop 0).take (Tryz.prog.cellsOf 5)) := hf 0 _ rfl
    have f1 : Came enc Tryz.prog W 3 (([x0, x1, x2].drop 1).take (Tryz.prog.cellsOf 3)) := hf 1 _ rfl
    have f2 : Came enc Tryz.prog W 24 (([x0, x1, x2].drop 2).take (Tryz.prog.cellsOf 24)) := hf 2 _ rfl
    have c5 : Tryz.prog.cellsOf 5 = 1 := by kernel_rfl
    have c26 : Tryz.prog.cellsOf 24 = 1 := by kernel_rfl
    have c3 : Tryz.prog.cellsOf 3 = 1 := by kernel_rfl
    rw [c5] at f0
    rw [c3] at f1
    rw [c26] at f2
    obtain ⟨B, m, d, xs, h10, h11, h12, h13, h14, h15⟩ := f2.ints Tryz.underlying24 Tryz.underlying5 (by kernel_rfl)
    obtain ⟨y, hy, wy⟩ := f1.int Tryz.underlying3
    obtain ⟨k, hk, wk⟩ := f0.int Tryz.underlying5
    injection h10 with h10 _
    injection hy with hy _
    injection hk with hk _
    have hb1 : Tryz.prog.bytesOf 5 = 1 := by kernel_rfl
    rw [hb1] at h12
    have hlx := h14.1
    refine ⟨(k, y, xs), B, d, by rw [h10, hy, hk, hlx], by simp only; omega, by simp only; omega, by simp only; rw [hlx]; exact h14, fun j => ?_, (bd_u8 wk).1, (bd_u8 wk).2⟩
    by_cases hj : j < m
    · exact bd_u8 (h15 j hj)
    · simp only
      rw [List.getD_eq_getElem?_getD, List.getElem?_eq_none (by omega)]; exact ⟨by decide, by decide⟩
set_option maxRecDepth 100000 in
theorem came_ops {H : Type} {enc : TypeId × Value → H} {W : World} {A : Option Addr} {n c : Nat} (h : Came enc Tryz.prog W 85 [.slice A n c]) :
    ∃ os, ReadsOps W A n os ∧ (∀ j, j < os.length → Bytes (os.getD j zO).2.2) ∧ n ≤ 140737488355328 ∧ ∀ j, j < os.length → 0 ≤ (os.getD j zO).1 ∧ (os.getD j zO).1 ≤ 255 := by
  obtain ⟨A', n', c', h1, h2, h3, h4, h5, h6, h7⟩ := h.slice Tryz.underlying85
  injection h1 with h1 _
  injection h1 with h1 h1' h1''
  subst h1 h1' h1''
  have hb : Tryz.prog.bytesOf 96 = 40 := by kernel_rfl
  have h3c : Tryz.prog.cellsOf 96 = 3 := by kernel_rfl
  rw [hb] at h4
  rw [h3c] at h7
  unfold maxLen at h3
  rcases A with _ | ad
  · obtain ⟨rfl, _⟩ := h6 rfl
    exact ⟨[], ⟨rfl, by omega, fun h => by omega⟩, fun j hj => by simp at hj, by omega, fun j hj => by simp at hj⟩
  · obtain ⟨ts, hl, hx⟩ := list_of zO n (p := fun i t => (∃ B d, W.cell? ((ad.add (i * 3)).add 0) = some (.int .u8 t.1) ∧ W.cell? ((ad.add (i * 3)).add 1) = some (.int .i64 t.2.1) ∧ W.cell? ((ad.add (i * 3)).add 2) = some (.slice B t.2.2.length d) ∧ t.2.2.length ≤ d ∧ t.2.2.length ≤ 140737488351232 ∧ Reads W .u8 B t.2.2.length t.2.2) ∧ Bytes t.2.2 ∧ 0 ≤ t.1 ∧ t.1 ≤ 255) (fun i hi => by
      obtain ⟨cs', h8, h9⟩ := h7 ad rfl i hi
      obtain ⟨_, _, hc⟩ := World.cells?_some h8
      obtain ⟨t, B, d, hx, e1, e2, e3, e4, e5, e6⟩ := came_op h9
      rw [hx] at hc
      exact ⟨t, ⟨B, d, hc 0 (by omega), hc 1 (by omega), hc 2 (by omega), e1, e2, e3⟩, e4, e5, e6⟩)
    refine ⟨ts, ⟨hl, by omega, fun hn => ?_⟩, fun j hj => (hx j (by omega)).2.1, by omega, fun j hj => (hx j (by omega)).2.2⟩
    obtain ⟨b, off, spot⟩ := ad
    obtain ⟨⟨B0, d0, h0, _⟩, _⟩ := hx 0 hn
    have hs : spot = none := by simpa [Addr.add] using World.cell?_spot h0
    subst hs
    refine ⟨b, off, rfl, ?_, fun j hj => ?_⟩
    · have := World.block_lt_of_cell? W _ h0
      rwa [add_block, add_block] at this
    · obtain ⟨⟨B, d, e1, e2, e3, r⟩, _⟩ := hx j hj
      rw [Addr.add_lit, Addr.add_lit] at e1 e2 e3
      exact ⟨B, d, by simpa [Nat.add_assoc] using e1, by simpa [Nat.add_assoc] using e2, by simpa [Nat.add_assoc] using e3, r⟩
end Go.Proofs.YtmoakgkoahjijaaGreatDoor
