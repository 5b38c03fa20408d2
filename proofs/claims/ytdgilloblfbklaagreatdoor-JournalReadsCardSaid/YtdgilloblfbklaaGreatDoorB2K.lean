/-
  A book of bytes: the marks; one more list is kept.
-/
import Derived.Test.YtdgilloblfbklaaGreatDoorB2L
import Derived.Test.YtdgilloblfbklaaGreatDoorFloatTail
set_option linter.unusedVariables false
set_option linter.unusedSimpArgs false
namespace Go.Proofs.YtdgilloblfbklaaGreatDoor
open Go.RowKit

theorem aside' {p : Prop} (h : p) : Aside p := h
theorem flat3_at (no : Nat → Nat) (ps : List (Value × Value)) (j : Nat) (p : Value × Value) (h : ps[j]? = some p) : (flat3 no 0 ps)[j * 3]? = some p.1 ∧ (flat3 no 0 ps)[j * 3 + 1]? = some p.2 ∧ (flat3 no 0 ps)[j * 3 + 2]? = some (.int .i64 ((no j : Nat) : Int)) := by
  have h1 := flat3_get no ps 0 j p h
  rw [Nat.zero_add] at h1
  exact h1
theorem mark_any (i : Nat) (hi : i ≤ 1000000000000) (W : World) : Calls Tryz.prog 113 #[.int .i64 (i : Int)] W fun e w' => e = .returned (.int .u8 (mark i)) ∧ w' = W := by
  obtain ⟨r, hr⟩ : ∃ r, r = i % 250 := ⟨_, rfl⟩
  have hb : r < 250 := by omega
  have m1 : (i : Int) % 250 = (r : Int) := by omega
  have m2 : (i : Int).tmod 250 = (r : Int) := by rw [Int.tmod_eq_emod_of_nonneg (by omega)]; exact m1
  have HM := aside' (show mark i = 1 + (r : Int) by rw [mark, hr])
  clear hr
  go_enter Tryz.func113, Tryz.ntmps113
  go_wp2
  go_ret
  exact ⟨by rw [HM.out]; rfl, rfl⟩
theorem is_any (i : Nat) (hi : i ≤ 1000000000000) (W : World) : Calls Tryz.prog 143 #[.int .u8 (mark i), .int .i64 (i : Int)] W fun e w' => e = .returned (.bool true) ∧ w' = W := by
  obtain ⟨r, hr⟩ : ∃ r, r = i % 250 := ⟨_, rfl⟩
  have hb : r < 250 := by omega
  have m1 : (i : Int) % 250 = (r : Int) := by omega
  have m2 : (i : Int).tmod 250 = (r : Int) := by rw [Int.tmod_eq_emod_of_nonneg (by omega)]; exact m1
  have HM : mark i = 1 + (r : Int) := by rw [mark, hr]
  rw [HM]
  clear hr HM
  go_enter Tryz.func143, Tryz.ntmps143
  go_wp2
  go_ret
  exact ⟨rfl, rfl⟩
theorem infoHB : (Tryz.prog.info? 79).map (fun i => (i.zero, i.size, i.bytes)) = some (some (.agg #[.slice none 0 0, .slice none 0 0, .int .i64 0]), 3, 56) := by kernel_rfl
theorem infoBY : (Tryz.prog.info? 5).map (fun i => (i.zero, i.size, i.bytes)) = some (some (.int .u8 0), 1, 1) := by kernel_rfl
/-- The numbers when one more list is kept. -/
def noNext (no : Nat → Nat) (n N : Nat) : Nat → Nat := fun j => if j < n then no j else N + 1
/-- What is there when one more list is kept (the book's cells: cs' of row'). -/
def Kept (ix : Nat) (ht : TypeId) (base b N : Nat) (cs' : Value → Array Value) (row v : Value) (ps : List (Value × Value)) (no : Nat → Nat) (F : Nat → Nat → Prop) (Fv : Nat → Prop) (W : World) (e : Ending) (w' : World) : Prop :=
  (∃ u, e = .returned u) ∧ ∃ row', Bk ix ht w' base b (cs' row') row' (ps ++ [(v, .slice none 0 0)]) (noNext no ps.length N) (fun i k => F i k ∨ (i = ps.length ∧ Fv k)) ∧ Foot (fun k => k = b ∨ row.ownBlock = some k) W w' ∧ ∀ k, row'.ownBlock = some k → row.ownBlock = some k ∨ W.heap.size ≤ k
theorem kept_of {ix : Nat} {ht : TypeId} {W w1 : World} {base b N : Nat} {cs : Array Value} {cs' : Value → Array Value} {row v v1 : Value} {ps : List (Value × Value)} {no : Nat → Nat} {F : Nat → Nat → Prop} {Fv : Nat → Prop} {o : Obj} (h : Bk ix ht W base b cs row ps no F) (hN : N ≤ 100000000000)
    (hcs : (cs.setIfInBounds 0 (.int .i64 ((N : Int) + 1))).setIfInBounds ix v1 = cs' v1) (hcx : (cs' v1)[ix]? = some v1)
    (h1 : ∀ k, Fv k → base ≤ k ∧ k < W.heap.size ∧ k ≠ b ∧ row.ownBlock ≠ some k) (h2 : ∀ i k, F i k → ¬ Fv k)
    (hown : w1.ownsRow base ht 3 v1 (ps.length + 1) (flat3 no 0 ps ++ [v, .slice none 0 0, .int .i64 ((N : Int) + 1)]))
    (hg : ((W.setCell ⟨b, 0, none⟩ (.int .i64 ((N : Int) + 1))).alloc o).grownBy w1 row.ownBlock) (hat : v1.ownBlock = row.ownBlock ∨ v1.ownBlock = some (W.heap.size + 1)) :
    ∃ row', Bk ix ht (w1.setCell ⟨b, ix, none⟩ v1) base b (cs' row') row' (ps ++ [(v, .slice none 0 0)]) (noNext no ps.length N) (fun i k => F i k ∨ (i = ps.length ∧ Fv k)) ∧ Foot (fun k => k = b ∨ row.ownBlock = some k) W (w1.setCell ⟨b, ix, none⟩ v1) ∧ ∀ k, row'.ownBlock = some k → row.ownBlock = some k ∨ W.heap.size ≤ k := by
  have hblt : b < W.heap.size := (Array.getElem?_eq_some_iff.1 h.hb).1
  have hs0 : (W.setCell ⟨b, 0, none⟩ (.int .i64 ((N : Int) + 1))).heap.size = W.heap.size := by simp [World.setCell]
  have hb1 := setCell_heap h.hb 0 (.int .i64 ((N : Int) + 1))
  have hb2 := (Below.heap_alloc _ o b (by rw [hs0]; exact hblt)).trans hb1
  have hb3 := (hg.block b (by simp; omega) (fun e => h.rb e.symm)).trans hb2
  have hv1 : ∀ k, v1.ownBlock = some k → row.ownBlock = some k ∨ k = W.heap.size + 1 := by
    intro k hk
    rcases hat with e | e
    · exact .inl (e.symm.trans hk)
    · rw [e] at hk; injection hk with hk; exact .inr hk.symm
  have hvb : v1.ownBlock ≠ some b := fun e => by
    rcases hv1 b e with e' | e'
    · exact h.rb e'
    · omega
  have hft : Foot (fun k => k = b ∨ row.ownBlock = some k) W (w1.setCell ⟨b, ix, none⟩ v1) :=
    ((((Foot.refl _ W).setCell (p := ⟨b, 0, none⟩) (.inl (.inl rfl)) _).alloc o).grown hg (fun k hk => .inl (.inr hk))).setCell (p := ⟨b, ix, none⟩) (.inl (.inl rfl)) _
  have hsz : W.heap.size ≤ (w1.setCell ⟨b, ix, none⟩ v1).heap.size := hft.size
  have he : flat3 (noNext no ps.length N) 0 (ps ++ [(v, .slice none 0 0)]) = flat3 no 0 ps ++ [v, .slice none 0 0, .int .i64 ((N : Int) + 1)] := by
    rw [flat3_append, flat3_congr (noNext no ps.length N) no ps 0 (fun j _ hj => by simp only [noNext]; rw [if_pos (by omega)])]
    simp [flat3, noNext]
  refine ⟨v1, ⟨?_, hcx, ?_, fun j => ?_, hvb, h.bb, ?_, ?_⟩, hft, fun k hk => (hv1 k hk).imp id (fun e => by omega)⟩
  · rw [setCell_heap hb3 ix v1, hcs]
  · rw [he, List.length_append, List.length_singleton]
    exact own_foot hown ((Foot.refl (fun k => k = b) w1).setCell (p := ⟨b, ix, none⟩) (.inl rfl) v1) (fun k hk e => hvb (e ▸ hk))
  · simp only [noNext]
    split
    · exact h.nb j
    · omega
  · intro i k hk
    have hx : base ≤ k ∧ k < W.heap.size ∧ k ≠ b ∧ row.ownBlock ≠ some k := by
      rcases hk with hk | ⟨_, hk⟩
      · exact h.fl i k hk
      · exact h1 k hk
    refine ⟨hx.1, by omega, hx.2.2.1, fun e => ?_⟩
    rcases hv1 k e with e' | e'
    · exact hx.2.2.2 e'
    · omega
  · intro i j k hi hj
    rcases hi with hi | ⟨ei, hi⟩ <;> rcases hj with hj | ⟨ej, hj⟩
    · exact h.fd i j k hi hj
    · exact absurd hj (h2 i k hi)
    · exact absurd hi (h2 j k hj)
    · omega
set_option maxRecDepth 100000 in
set_option maxHeartbeats 1600000 in
theorem keep_any (base b N : Nat) (row blob : Value) (ps : List (Value × Value)) (no : Nat → Nat) (F : Nat → Nat → Prop) (A : Option Addr) (n c : Nat) (Fv : Nat → Prop) (W : World) (h : Bk 2 79 W base b (bookCells N row blob) row ps no F) (hN : ps.length ≤ 1000000000) (hNN : N ≤ 100000000000)
    (h1 : ∀ k, Fv k → base ≤ k ∧ k < W.heap.size ∧ k ≠ b ∧ row.ownBlock ≠ some k) (h2 : ∀ i k, F i k → ¬ Fv k) :
    Calls Tryz.prog 16 #[.pointer (some ⟨b, 0, none⟩), .slice A n c] W (Kept 2 79 base b N (fun r => bookCells (N + 1) r blob) row (.slice A n c) ps no F Fv W) := by
  have hbs : base ≤ W.heap.size := Nat.le_of_lt (Nat.lt_of_le_of_lt h.bb (Array.getElem?_eq_some_iff.1 h.hb).1)
  have c0 : W.cell? ⟨b, 0, none⟩ = some (.int .i64 (N : Int)) := cellOf h.hb 0
  have f0 := frozenOf h.hb 0
  obtain ⟨Ar, Lr, cr, rfl, HLr⟩ := own_form h.hr
  have hLr := HLr.out
  subst hLr
  have hb1 := setCell_heap h.hb 0 (.int .i64 ((N : Int) + 1))
  have c2 : (W.setCell ⟨b, 0, none⟩ (.int .i64 ((N : Int) + 1))).cell? ⟨b, 2, none⟩ = some (.slice Ar ps.length cr) := (cellOf hb1 2).trans rfl
  have c3 : (W.setCell ⟨b, 0, none⟩ (.int .i64 ((N : Int) + 1))).cell? ⟨b, 0, none⟩ = some (.int .i64 ((N : Int) + 1)) := (cellOf hb1 0).trans rfl
  have HR1 := aside' (own_foot h.hr ((Foot.refl (fun k => k = b) W).setCell (p := ⟨b, 0, none⟩) (.inl rfl) (.int .i64 ((N : Int) + 1))) (fun k hk e => h.rb (e ▸ hk)))
  have HB1 := aside' hb1
  have H := aside' (And.intro h (And.intro h1 h2))
  have hsz : (W.setCell ⟨b, 0, none⟩ (.int .i64 ((N : Int) + 1))).heap.size = W.heap.size := by simp [World.setCell]
  clear h h1 h2 hb1 HLr
  go_enter Tryz.func16, Tryz.ntmps16
  go_wp2_with fail
  generalize hW1 : W.setCell ⟨b, 0, none⟩ (.int .i64 ((N : Int) + 1)) = W1 at *
  have HC := aside' (Cells.lit W1 79 #[.slice A n c, .slice none 0 0, .int .i64 ((N : Int) + 1)] 1 3 rfl (by intro u hu; simp at hu; rcases hu with rfl | rfl | rfl <;> rfl))
  rw [hsz] at HC
  have hblt : b < W1.heap.size := (Array.getElem?_eq_some_iff.1 HB1.out).1
  have HO := aside' (HR1.out.alloc (.cells #[.slice A n c, .slice none 0 0, .int .i64 ((N : Int) + 1)] 79))
  have HS := aside' (show base ≤ (W1.drew.alloc (.cells #[.slice A n c, .slice none 0 0, .int .i64 ((N : Int) + 1)] 79)).heap.size by simp; omega)
  have ca : (W1.alloc (.cells #[.slice A n c, .slice none 0 0, .int .i64 ((N : Int) + 1)] 79)).drew.cell? ⟨b, 2, none⟩ = some (.slice Ar ps.length cr) := (((Below.refl W1.heap.size W1).alloc (Nat.le_refl _) _).cell (p := ⟨b, 2, none⟩) hblt).trans c2
  have cb : (W1.drew.alloc (.cells #[.slice A n c, .slice none 0 0, .int .i64 ((N : Int) + 1)] 79)).cell? ⟨b, 2, none⟩ = some (.slice Ar ps.length cr) := ca
  have cc : (W1.alloc (.cells #[.slice A n c, .slice none 0 0, .int .i64 ((N : Int) + 1)] 79)).cell? ⟨b, 2, none⟩ = some (.slice Ar ps.length cr) := ca
  go_region_law ((refine step_append_cells base (by rfl) _ _ 30 79 (.agg #[.slice none 0 0, .slice none 0 0, .int .i64 0]) 3 56 (by rfl) Tryz.underlying30 infoHB (by rfl) (by omega) (by omega) (.slice Ar ps.length cr) ps.length (flat3 no 0 ps) [.slice A n c, .slice none 0 0, .int .i64 ((N : Int) + 1)] _ 1 1 (by rfl) (by rfl) (by exact HO.out) (by exact HC.out) (by exact HS.out) (by omega) ?_; intro v1 w1 hown1 hg1 hat1; obtain ⟨g1, k1, rfl, hgb, hgs, _, _⟩ := own_some hown1 (by omega); have hbk := (hg1.block b (by simp; omega) (fun e => H.out.1.rb e.symm)).trans ((Below.heap_alloc W1 (.cells #[.slice A n c, .slice none 0 0, .int .i64 ((N : Int) + 1)] 79) b hblt).trans HB1.out); have HBK := aside' hbk; have kA : w1.cell? ⟨b, 2, none⟩ = some (.slice Ar ps.length cr) := (cellOf hbk 2).trans rfl; have kf := frozenOf hbk 2; have HG1 := aside' (And.intro hown1 (And.intro hg1 hat1)); clear hbk))
  all_goals go_end0
  all_goals (
    obtain ⟨row', hk1, hk2, hk3⟩ := kept_of (N := N) (cs' := (fun r => bookCells (N + 1) r blob)) (v := .slice A n c) (o := .cells #[.slice A n c, .slice none 0 0, .int .i64 ((N : Int) + 1)] 79) H.out.1 hNN (by simp [bookCells]) rfl H.out.2.1 H.out.2.2 HG1.out.1 (by rw [hW1]; exact ⟨HG1.out.2.1.os, HG1.out.2.1.tape, HG1.out.2.1.output, HG1.out.2.1.size, HG1.out.2.1.block⟩) (HG1.out.2.2.imp id (fun h => h.trans (by show some (W1.alloc (.cells #[.slice A n c, .slice none 0 0, .int .i64 ((N : Int) + 1)] 79)).heap.size = _; rw [World.size_alloc, hsz])))
    exact ⟨⟨_, rfl⟩, row', hk1, hk2, hk3⟩)
end Go.Proofs.YtdgilloblfbklaaGreatDoor
