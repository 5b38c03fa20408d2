/-
  A book of bytes and blobs: one more blob is kept.
-/
import Derived.Test.YtdgilloblfbklaaGreatDoorB2K
set_option linter.unusedVariables false
set_option linter.unusedSimpArgs false
namespace Go.Proofs.YtdgilloblfbklaaGreatDoor
open Go.RowKit

theorem infoBHB : (Tryz.prog.info? 81).map (fun i => (i.zero, i.size, i.bytes)) = some (some (.agg #[.slice none 0 0, .slice none 0 0, .int .i64 0]), 3, 56) := by kernel_rfl
set_option maxRecDepth 100000 in
set_option maxHeartbeats 1600000 in
theorem keepB_any (base b N : Nat) (row blob : Value) (ps : List (Value × Value)) (no : Nat → Nat) (F : Nat → Nat → Prop) (A : Option Addr) (n c : Nat) (Fv : Nat → Prop) (W : World) (h : Bk 5 81 W base b (bookCells N row blob) blob ps no F) (hN : ps.length ≤ 1000000000) (hNN : N ≤ 100000000000)
    (h1 : ∀ k, Fv k → base ≤ k ∧ k < W.heap.size ∧ k ≠ b ∧ blob.ownBlock ≠ some k) (h2 : ∀ i k, F i k → ¬ Fv k) :
    Calls Tryz.prog 17 #[.pointer (some ⟨b, 0, none⟩), .slice A n c] W (Kept 5 81 base b N (fun r => bookCells (N + 1) row r) blob (.slice A n c) ps no F Fv W) := by
  have hbs : base ≤ W.heap.size := Nat.le_of_lt (Nat.lt_of_le_of_lt h.bb (Array.getElem?_eq_some_iff.1 h.hb).1)
  have c0 : W.cell? ⟨b, 0, none⟩ = some (.int .i64 (N : Int)) := cellOf h.hb 0
  have f0 := frozenOf h.hb 0
  obtain ⟨Ar, Lr, cr, rfl, HLr⟩ := own_form h.hr
  have hLr := HLr.out
  subst hLr
  have hb1 := setCell_heap h.hb 0 (.int .i64 ((N : Int) + 1))
  have c2 : (W.setCell ⟨b, 0, none⟩ (.int .i64 ((N : Int) + 1))).cell? ⟨b, 5, none⟩ = some (.slice Ar ps.length cr) := (cellOf hb1 5).trans rfl
  have c3 : (W.setCell ⟨b, 0, none⟩ (.int .i64 ((N : Int) + 1))).cell? ⟨b, 0, none⟩ = some (.int .i64 ((N : Int) + 1)) := (cellOf hb1 0).trans rfl
  have HR1 := aside' (own_foot h.hr ((Foot.refl (fun k => k = b) W).setCell (p := ⟨b, 0, none⟩) (.inl rfl) (.int .i64 ((N : Int) + 1))) (fun k hk e => h.rb (e ▸ hk)))
  have HB1 := aside' hb1
  have H := aside' (And.intro h (And.intro h1 h2))
  have hsz : (W.setCell ⟨b, 0, none⟩ (.int .i64 ((N : Int) + 1))).heap.size = W.heap.size := by simp [World.setCell]
  clear h h1 h2 hb1 HLr
  go_enter Tryz.func17, Tryz.ntmps17
  go_wp2_with fail
  generalize hW1 : W.setCell ⟨b, 0, none⟩ (.int .i64 ((N : Int) + 1)) = W1 at *
  have HC := aside' (Cells.lit W1 81 #[.slice A n c, .slice none 0 0, .int .i64 ((N : Int) + 1)] 1 3 rfl (by intro u hu; simp at hu; rcases hu with rfl | rfl | rfl <;> rfl))
  rw [hsz] at HC
  have hblt : b < W1.heap.size := (Array.getElem?_eq_some_iff.1 HB1.out).1
  have HO := aside' (HR1.out.alloc (.cells #[.slice A n c, .slice none 0 0, .int .i64 ((N : Int) + 1)] 81))
  have HS := aside' (show base ≤ (W1.drew.alloc (.cells #[.slice A n c, .slice none 0 0, .int .i64 ((N : Int) + 1)] 81)).heap.size by simp; omega)
  have ca : (W1.alloc (.cells #[.slice A n c, .slice none 0 0, .int .i64 ((N : Int) + 1)] 81)).drew.cell? ⟨b, 5, none⟩ = some (.slice Ar ps.length cr) := (((Below.refl W1.heap.size W1).alloc (Nat.le_refl _) _).cell (p := ⟨b, 5, none⟩) hblt).trans c2
  have cb : (W1.drew.alloc (.cells #[.slice A n c, .slice none 0 0, .int .i64 ((N : Int) + 1)] 81)).cell? ⟨b, 5, none⟩ = some (.slice Ar ps.length cr) := ca
  have cc : (W1.alloc (.cells #[.slice A n c, .slice none 0 0, .int .i64 ((N : Int) + 1)] 81)).cell? ⟨b, 5, none⟩ = some (.slice Ar ps.length cr) := ca
  go_region_law ((refine step_append_cells base (by rfl) _ _ 33 81 (.agg #[.slice none 0 0, .slice none 0 0, .int .i64 0]) 3 56 (by rfl) Tryz.underlying33 infoBHB (by rfl) (by omega) (by omega) (.slice Ar ps.length cr) ps.length (flat3 no 0 ps) [.slice A n c, .slice none 0 0, .int .i64 ((N : Int) + 1)] _ 1 1 (by rfl) (by rfl) (by exact HO.out) (by exact HC.out) (by exact HS.out) (by omega) ?_; intro v1 w1 hown1 hg1 hat1; obtain ⟨g1, k1, rfl, hgb, hgs, _, _⟩ := own_some hown1 (by omega); have hbk := (hg1.block b (by simp; omega) (fun e => H.out.1.rb e.symm)).trans ((Below.heap_alloc W1 (.cells #[.slice A n c, .slice none 0 0, .int .i64 ((N : Int) + 1)] 81) b hblt).trans HB1.out); have HBK := aside' hbk; have kA : w1.cell? ⟨b, 5, none⟩ = some (.slice Ar ps.length cr) := (cellOf hbk 5).trans rfl; have kf := frozenOf hbk 5; have HG1 := aside' (And.intro hown1 (And.intro hg1 hat1)); clear hbk))
  all_goals go_end0
  all_goals (
    obtain ⟨row', hk1, hk2, hk3⟩ := kept_of (N := N) (cs' := (fun r => bookCells (N + 1) row r)) (v := .slice A n c) (o := .cells #[.slice A n c, .slice none 0 0, .int .i64 ((N : Int) + 1)] 81) H.out.1 hNN (by simp [bookCells]) rfl H.out.2.1 H.out.2.2 HG1.out.1 (by rw [hW1]; exact ⟨HG1.out.2.1.os, HG1.out.2.1.tape, HG1.out.2.1.output, HG1.out.2.1.size, HG1.out.2.1.block⟩) (HG1.out.2.2.imp id (fun h => h.trans (by show some (W1.alloc (.cells #[.slice A n c, .slice none 0 0, .int .i64 ((N : Int) + 1)] 81)).heap.size = _; rw [World.size_alloc, hsz])))
    exact ⟨⟨_, rfl⟩, row', hk1, hk2, hk3⟩)
end Go.Proofs.YtdgilloblfbklaaGreatDoor
