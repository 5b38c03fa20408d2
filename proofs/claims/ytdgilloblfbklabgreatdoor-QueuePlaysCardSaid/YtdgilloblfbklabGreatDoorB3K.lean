/-
  A book of bytes: the marks; one more list is kept.
-/
import Derived.Test.YtdgilloblfbklabGreatDoorB3L
import Derived.Test.YtdgilloblfbklabGreatDoorFloatTail
set_option linter.unusedVariables false
set_option linter.unusedSimpArgs false
namespace Go.Proofs.YtdgilloblfbklabGreatDoor.Own
open Go.RowKit

theorem aside' {p : Prop} (h : p) : Aside p := h
theorem flat3_at (ps : List (Value × Value)) (j : Nat) (p : Value × Value) (h : ps[j]? = some p) : (flat3 0 ps)[j * 3]? = some p.1 ∧ (flat3 0 ps)[j * 3 + 1]? = some p.2 ∧ (flat3 0 ps)[j * 3 + 2]? = some (.int .i64 ((j : Int) + 1)) := by
  have h1 := flat3_get ps 0 j p h
  rw [show (((0 : Nat) : Int) + (j : Int) + 1) = (j : Int) + 1 by omega] at h1
  exact h1
theorem mark_any (i : Nat) (hi : i ≤ 1000000000000) (W : World) : Calls Tryz.prog 118 #[.int .i64 ((i : Int) + 1)] W fun e w' => e = .returned (.int .u8 (mark i)) ∧ w' = W := by
  obtain ⟨r, hr⟩ : ∃ r, r = (i + 1) % 250 := ⟨_, rfl⟩
  have hb : r < 250 := by omega
  have m1 : ((i : Int) + 1) % 250 = (r : Int) := by omega
  have m2 : ((i : Int) + 1).tmod 250 = (r : Int) := by rw [Int.tmod_eq_emod_of_nonneg (by omega)]; exact m1
  have HM := aside' (show mark i = 1 + (r : Int) by rw [mark, hr])
  clear hr
  go_enter Tryz.func118, Tryz.ntmps118
  go_wp2
  go_ret
  exact ⟨by rw [HM.out]; rfl, rfl⟩
theorem is_any (i : Nat) (hi : i ≤ 1000000000000) (W : World) : Calls Tryz.prog 148 #[.int .u8 (mark i), .int .i64 ((i : Int) + 1)] W fun e w' => e = .returned (.bool true) ∧ w' = W := by
  obtain ⟨r, hr⟩ : ∃ r, r = (i + 1) % 250 := ⟨_, rfl⟩
  have hb : r < 250 := by omega
  have m1 : ((i : Int) + 1) % 250 = (r : Int) := by omega
  have m2 : ((i : Int) + 1).tmod 250 = (r : Int) := by rw [Int.tmod_eq_emod_of_nonneg (by omega)]; exact m1
  have HM : mark i = 1 + (r : Int) := by rw [mark, hr]
  rw [HM]
  clear hr HM
  go_enter Tryz.func148, Tryz.ntmps148
  go_wp2
  go_ret
  exact ⟨rfl, rfl⟩
theorem infoHB : (Tryz.prog.info? 113).map (fun i => (i.zero, i.size, i.bytes)) = some (some (.agg #[.slice none 0 0, .slice none 0 0, .int .i64 0]), 3, 56) := by kernel_rfl
theorem infoBY : (Tryz.prog.info? 5).map (fun i => (i.zero, i.size, i.bytes)) = some (some (.int .u8 0), 1, 1) := by kernel_rfl
/-- What is there when one more list is kept. -/
def Kept (base b : Nat) (row v : Value) (ps : List (Value × Value)) (F : Nat → Nat → Prop) (Fv : Nat → Prop) (W : World) (e : Ending) (w' : World) : Prop :=
  (∃ u, e = .returned u) ∧ ∃ row', Bk w' base b row' (ps ++ [(v, .slice none 0 0)]) (fun i k => F i k ∨ (i = ps.length ∧ Fv k)) ∧ Foot (fun k => k = b ∨ row.ownBlock = some k) W w' ∧ ∀ k, row'.ownBlock = some k → row.ownBlock = some k ∨ W.heap.size ≤ k
theorem kept_of {W w1 : World} {base b : Nat} {row v v1 : Value} {ps : List (Value × Value)} {F : Nat → Nat → Prop} {Fv : Nat → Prop} {o : Obj} (h : Bk W base b row ps F)
    (h1 : ∀ k, Fv k → base ≤ k ∧ k < W.heap.size ∧ k ≠ b ∧ row.ownBlock ≠ some k) (h2 : ∀ i k, F i k → ¬ Fv k)
    (hown : w1.ownsRow base 113 3 v1 (ps.length + 1) (flat3 0 ps ++ [v, .slice none 0 0, .int .i64 ((ps.length : Int) + 1)]))
    (hg : ((W.setCell ⟨b, 0, none⟩ (.int .i64 ((ps.length : Int) + 1))).alloc o).grownBy w1 row.ownBlock) (hat : v1.ownBlock = row.ownBlock ∨ v1.ownBlock = some (W.heap.size + 1)) :
    ∃ row', Bk (w1.setCell ⟨b, 2, none⟩ v1) base b row' (ps ++ [(v, .slice none 0 0)]) (fun i k => F i k ∨ (i = ps.length ∧ Fv k)) ∧ Foot (fun k => k = b ∨ row.ownBlock = some k) W (w1.setCell ⟨b, 2, none⟩ v1) ∧ ∀ k, row'.ownBlock = some k → row.ownBlock = some k ∨ W.heap.size ≤ k := by
  have hblt : b < W.heap.size := (Array.getElem?_eq_some_iff.1 h.hb).1
  have hs0 : (W.setCell ⟨b, 0, none⟩ (.int .i64 ((ps.length : Int) + 1))).heap.size = W.heap.size := by simp [World.setCell]
  have hb1 := setCell_heap h.hb 0 (.int .i64 ((ps.length : Int) + 1))
  have hb2 := (Below.heap_alloc _ o b (by rw [hs0]; exact hblt)).trans hb1
  have hb3 := (hg.block b (by simp; omega) (fun e => h.rb e.symm)).trans hb2
  have hv1 : ∀ k, v1.ownBlock = some k → row.ownBlock = some k ∨ k = W.heap.size + 1 := by
    intro k hk
    rcases hat with e | e
    · exact .inl (e.symm.trans hk)
    · rw [e] at hk; injection hk with hk; exact .inr hk.symm
  have hvb : v1.ownBlock ≠ some b := fun e => by
    rcases hv1 b e with e' | e'
    · exact h.rb e'
    · omega
  have hft : Foot (fun k => k = b ∨ row.ownBlock = some k) W (w1.setCell ⟨b, 2, none⟩ v1) :=
    ((((Foot.refl _ W).setCell (p := ⟨b, 0, none⟩) (.inl (.inl rfl)) _).alloc o).grown hg (fun k hk => .inl (.inr hk))).setCell (p := ⟨b, 2, none⟩) (.inl (.inl rfl)) _
  have hsz : W.heap.size ≤ (w1.setCell ⟨b, 2, none⟩ v1).heap.size := hft.size
  have he : flat3 0 (ps ++ [(v, .slice none 0 0)]) = flat3 0 ps ++ [v, .slice none 0 0, .int .i64 ((ps.length : Int) + 1)] := by
    rw [flat3_append]
    simp [flat3]
  refine ⟨v1, ⟨?_, ?_, hvb, h.bb, ?_, ?_⟩, hft, fun k hk => (hv1 k hk).imp id (fun e => by omega)⟩
  · rw [setCell_heap hb3 2 v1]
    simp [bookCells]
  · rw [he, List.length_append, List.length_singleton]
    exact own_foot hown ((Foot.refl (fun k => k = b) w1).setCell (p := ⟨b, 2, none⟩) (.inl rfl) v1) (fun k hk e => hvb (e ▸ hk))
  · intro i k hk
    have hx : base ≤ k ∧ k < W.heap.size ∧ k ≠ b ∧ row.ownBlock ≠ some k := by
      rcases hk with hk | ⟨_, hk⟩
      · exact h.fl i k hk
      · exact h1 k hk
    refine ⟨hx.1, by omega, hx.2.2.1, fun e => ?_⟩
    rcases hv1 k e with e' | e'
    · exact hx.2.2.2 e'
    · omega
  · intro i j k hi hj
    rcases hi with hi | ⟨ei, hi⟩ <;> rcases hj with hj | ⟨ej, hj⟩
    · exact h.fd i j k hi hj
    · exact absurd hj (h2 i k hi)
    · exact absurd hi (h2 j k hj)
    · omega
set_option maxRecDepth 100000 in
set_option maxHeartbeats 1600000 in
theorem keep_any (base b : Nat) (row : Value) (ps : List (Value × Value)) (F : Nat → Nat → Prop) (A : Option Addr) (n c : Nat) (Fv : Nat → Prop) (W : World) (h : Bk W base b row ps F) (hN : ps.length ≤ 1000000000)
    (h1 : ∀ k, Fv k → base ≤ k ∧ k < W.heap.size ∧ k ≠ b ∧ row.ownBlock ≠ some k) (h2 : ∀ i k, F i k → ¬ Fv k) :
    Calls Tryz.prog 22 #[.pointer (some ⟨b, 0, none⟩), .slice A n c] W (Kept base b row (.slice A n c) ps F Fv W) := by
  have hbs : base ≤ W.heap.size := Nat.le_of_lt (Nat.lt_of_le_of_lt h.bb (Array.getElem?_eq_some_iff.1 h.hb).1)
  have c0 : W.cell? ⟨b, 0, none⟩ = some (.int .i64 (ps.length : Int)) := cellOf h.hb 0
  have f0 := frozenOf h.hb 0
  obtain ⟨Ar, Lr, cr, rfl, HLr⟩ := own_form h.hr
  have hLr := HLr.out
  subst hLr
  have hb1 := setCell_heap h.hb 0 (.int .i64 ((ps.length : Int) + 1))
  have c2 : (W.setCell ⟨b, 0, none⟩ (.int .i64 ((ps.length : Int) + 1))).cell? ⟨b, 2, none⟩ = some (.slice Ar ps.length cr) := (cellOf hb1 2).trans rfl
  have c3 : (W.setCell ⟨b, 0, none⟩ (.int .i64 ((ps.length : Int) + 1))).cell? ⟨b, 0, none⟩ = some (.int .i64 ((ps.length : Int) + 1)) := (cellOf hb1 0).trans rfl
  have HR1 := aside' (own_foot h.hr ((Foot.refl (fun k => k = b) W).setCell (p := ⟨b, 0, none⟩) (.inl rfl) (.int .i64 ((ps.length : Int) + 1))) (fun k hk e => h.rb (e ▸ hk)))
  have HB1 := aside' hb1
  have H := aside' (And.intro h (And.intro h1 h2))
  have hsz : (W.setCell ⟨b, 0, none⟩ (.int .i64 ((ps.length : Int) + 1))).heap.size = W.heap.size := by simp [World.setCell]
  clear h h1 h2 hb1 HLr
  go_enter Tryz.func22, Tryz.ntmps22
  go_wp2_with fail
  generalize hW1 : W.setCell ⟨b, 0, none⟩ (.int .i64 ((ps.length : Int) + 1)) = W1 at *
  have HC := aside' (Cells.lit W1 113 #[.slice A n c, .slice none 0 0, .int .i64 ((ps.length : Int) + 1)] 1 3 rfl (by intro u hu; simp at hu; rcases hu with rfl | rfl | rfl <;> rfl))
  rw [hsz] at HC
  have hblt : b < W1.heap.size := (Array.getElem?_eq_some_iff.1 HB1.out).1
  have HO := aside' (HR1.out.alloc (.cells #[.slice A n c, .slice none 0 0, .int .i64 ((ps.length : Int) + 1)] 113))
  have HS := aside' (show base ≤ (W1.drew.alloc (.cells #[.slice A n c, .slice none 0 0, .int .i64 ((ps.length : Int) + 1)] 113)).heap.size by simp; omega)
  have ca : (W1.alloc (.cells #[.slice A n c, .slice none 0 0, .int .i64 ((ps.length : Int) + 1)] 113)).drew.cell? ⟨b, 2, none⟩ = some (.slice Ar ps.length cr) := (((Below.refl W1.heap.size W1).alloc (Nat.le_refl _) _).cell (p := ⟨b, 2, none⟩) hblt).trans c2
  have cb : (W1.drew.alloc (.cells #[.slice A n c, .slice none 0 0, .int .i64 ((ps.length : Int) + 1)] 113)).cell? ⟨b, 2, none⟩ = some (.slice Ar ps.length cr) := ca
  have cc : (W1.alloc (.cells #[.slice A n c, .slice none 0 0, .int .i64 ((ps.length : Int) + 1)] 113)).cell? ⟨b, 2, none⟩ = some (.slice Ar ps.length cr) := ca
  go_region_law ((refine step_append_cells base (by rfl) _ _ 40 113 (.agg #[.slice none 0 0, .slice none 0 0, .int .i64 0]) 3 56 (by rfl) Tryz.underlying40 infoHB (by rfl) (by omega) (by omega) (.slice Ar ps.length cr) ps.length (flat3 0 ps) [.slice A n c, .slice none 0 0, .int .i64 ((ps.length : Int) + 1)] _ 1 1 (by rfl) (by rfl) (by exact HO.out) (by exact HC.out) (by exact HS.out) (by omega) ?_; intro v1 w1 hown1 hg1 hat1; obtain ⟨g1, k1, rfl, hgb, hgs, _, _⟩ := own_some hown1 (by omega); have hbk := (hg1.block b (by simp; omega) (fun e => H.out.1.rb e.symm)).trans ((Below.heap_alloc W1 (.cells #[.slice A n c, .slice none 0 0, .int .i64 ((ps.length : Int) + 1)] 113) b hblt).trans HB1.out); have HBK := aside' hbk; have kA : w1.cell? ⟨b, 2, none⟩ = some (.slice Ar ps.length cr) := (cellOf hbk 2).trans rfl; have kf := frozenOf hbk 2; have HG1 := aside' (And.intro hown1 (And.intro hg1 hat1)); clear hbk))
  all_goals go_end0
  all_goals (
    obtain ⟨row', hk1, hk2, hk3⟩ := kept_of (v := .slice A n c) (o := .cells #[.slice A n c, .slice none 0 0, .int .i64 ((ps.length : Int) + 1)] 113) H.out.1 H.out.2.1 H.out.2.2 HG1.out.1 (by rw [hW1]; exact ⟨HG1.out.2.1.os, HG1.out.2.1.tape, HG1.out.2.1.output, HG1.out.2.1.size, HG1.out.2.1.block⟩) (HG1.out.2.2.imp id (fun h => h.trans (by show some (W1.alloc (.cells #[.slice A n c, .slice none 0 0, .int .i64 ((ps.length : Int) + 1)] 113)).heap.size = _; rw [World.size_alloc, hsz])))
    exact ⟨⟨_, rfl⟩, row', hk1, hk2, hk3⟩)
end Go.Proofs.YtdgilloblfbklabGreatDoor.Own
