/-
  A slice of slices of bytes that the call itself made: each row in a block of its own.
-/
import Derived.Test.YtdgilloblfbklaaGreatDoorFrame
import Derived.Test.YtdgilloblfbklaaGreatDoorAppendCells
import Derived.Test.YtdgilloblfbklaaGreatDoorRangeAt
set_option linter.unusedVariables false
set_option linter.unusedSimpArgs false
namespace Go.Proofs.YtdgilloblfbklaaGreatDoor
open Go.RowKit SumsMath

theorem infoSB : (Tryz.prog.info? 22).map (fun i => (i.zero, i.size, i.bytes)) = some (some (.slice none 0 0), 1, 24) := by kernel_rfl

structure RowOf (W : World) (base : Nat) (out : Value) (vs : List Value) (i : Nat) (xs : List Int) : Prop where
  ex : ∃ g c, vs[i]? = some (.slice (some ⟨g, 0, none⟩) xs.length c) ∧ W.ownsRow base 5 1 (.slice (some ⟨g, 0, none⟩) xs.length c) xs.length (nums .u8 xs) ∧ out.ownBlock ≠ some g ∧ ∀ j, j < i → ∀ g' n' c', vs[j]? = some (.slice (some ⟨g', 0, none⟩) n' c') → g' ≠ g
def RowsV (W : World) (base : Nat) (out : Value) (rows : List (List Int)) (vs : List Value) : Prop :=
  vs.length = rows.length ∧ W.ownsRow base 22 1 out rows.length vs ∧ ∀ i, i < rows.length → RowOf W base out vs i (rows.getD i [])
def RowsAt (W : World) (base : Nat) (out : Value) (rows : List (List Int)) : Prop := ∃ vs : List Value, RowsV W base out rows vs
theorem RowsAt.nil (W : World) (base : Nat) : RowsAt W base (.slice none 0 0) [] := ⟨[], rfl, World.ownsRow_nil _ _ _ _, fun i hi => by cases hi⟩
/-- Cells of blocks from base on lie as they lay. -/
theorem own_map {W W' : World} {base n : Nat} {e : TypeId} {size : Nat} {v : Value} {xs : List Value} (ho : W.ownsRow base e size v n xs) (hk : ∀ g cs t, base ≤ g → v.ownBlock = some g → W.heap[g]? = some (.cells cs t (0, 0)) → W'.heap[g]? = some (.cells cs t (0, 0))) : W'.ownsRow base e size v n xs := by
  refine ⟨ho.1, ho.2.elim .inl ?_⟩
  rintro ⟨g, cap, cur, h1, h2, h3, r⟩
  exact .inr ⟨g, cap, cur, h1, h2, hk g _ _ h2 (by rw [h1]; rfl) h3, r⟩
theorem RowsAt.map {W W' : World} {base : Nat} {out : Value} {rows : List (List Int)} (h : RowsAt W base out rows) (hk : ∀ g cs t, base ≤ g → W.heap[g]? = some (.cells cs t (0, 0)) → W'.heap[g]? = some (.cells cs t (0, 0))) : RowsAt W' base out rows := by
  obtain ⟨vs, h1, h2, h3⟩ := h
  refine ⟨vs, h1, own_map h2 (fun g cs t hb _ => hk g cs t hb), fun i hi => ?_⟩
  obtain ⟨g, c, e1, e2, e3, e4⟩ := (h3 i hi).ex
  exact ⟨g, c, e1, own_map e2 (fun g cs t hb _ => hk g cs t hb), e3, e4⟩
theorem own_base {W : World} {base base' n : Nat} {e : TypeId} {size : Nat} {v : Value} {xs : List Value} (ho : W.ownsRow base e size v n xs) (hb : base' ≤ base) : W.ownsRow base' e size v n xs := by
  refine ⟨ho.1, ho.2.elim .inl ?_⟩
  rintro ⟨g, cap, cur, h1, h2, r⟩
  exact .inr ⟨g, cap, cur, h1, Nat.le_trans hb h2, r⟩
theorem RowsAt.base {W : World} {b b' : Nat} {out : Value} {rows : List (List Int)} (h : RowsAt W b out rows) (hb : b' ≤ b) : RowsAt W b' out rows := by
  obtain ⟨vs, h1, h2, h3⟩ := h
  refine ⟨vs, h1, own_base h2 hb, fun i hi => ?_⟩
  obtain ⟨g, c, e1, e2, e3, e4⟩ := (h3 i hi).ex
  exact ⟨g, c, e1, own_base e2 hb, e3, e4⟩
theorem own_lt {W : World} {base n : Nat} {e : TypeId} {size : Nat} {v : Value} {xs : List Value} (ho : W.ownsRow base e size v n xs) {g : Nat} (hg : v.ownBlock = some g) : base ≤ g ∧ g < W.heap.size := by
  rcases ho.2 with ⟨h1, _⟩ | ⟨g', cap, cur, h1, h2, h3, _⟩
  · rw [h1] at hg; cases hg
  · rw [h1] at hg; injection hg with hg; subst hg; exact ⟨h2, (Array.getElem?_eq_some_iff.1 h3).1⟩
/-- One more row. -/
theorem RowsV.push {W W1 W2 : World} {base : Nat} {out v1 out2 : Value} {rows : List (List Int)} {x : List Int} {vs : List Value} (h : RowsV W base out rows vs) (hx : 0 < x.length)
    (hv1 : W1.ownsRow base 5 1 v1 x.length (nums .u8 x)) (hg1 : W.grownBy W1 none) (hat1 : v1.ownBlock = some W.heap.size)
    (hv2 : W2.ownsRow base 22 1 out2 (rows.length + 1) (vs ++ [v1])) (hg2 : ∀ g o, g < W1.heap.size → out.ownBlock ≠ some g → W1.heap[g]? = some o → W2.heap[g]? = some o)
    (hat2 : out2.ownBlock = out.ownBlock ∨ ∃ g, out2.ownBlock = some g ∧ W1.heap.size ≤ g) : RowsAt W2 base out2 (rows ++ [x]) := by
  obtain ⟨h1, h2, h3⟩ := h
  have hob : ∀ g, out.ownBlock = some g → g < W.heap.size := fun g hg => (own_lt h2 hg).2
  refine ⟨vs ++ [v1], by simp [h1], by simpa using hv2, fun i hi => ?_⟩
  have keep : ∀ {v : Value} {n : Nat} {xs : List Value}, W1.ownsRow base 5 1 v n xs → v.ownBlock ≠ out.ownBlock ∨ out.ownBlock = none → W2.ownsRow base 5 1 v n xs := fun {v n xs} hv hne => own_map hv (fun g cs t hb hg hh => hg2 g _ (own_lt hv hg).2 (by
    rcases hne with hne | hne
    · rw [← hg]; exact fun e => hne e.symm
    · rw [hne]; exact fun e => by cases e) hh)
  have hout2 : ∀ g, g < W1.heap.size → out.ownBlock ≠ some g → out2.ownBlock ≠ some g := fun g hlt hne => by
    rcases hat2 with e | ⟨g', e, hge⟩
    · rw [e]; exact hne
    · rw [e]; intro e'; injection e' with e'; omega
  rcases Nat.lt_or_ge i rows.length with hlt | hge
  · have hget : (rows ++ [x]).getD i [] = rows.getD i [] := by rw [List.getD_eq_getElem?_getD, List.getElem?_append_left hlt, List.getD_eq_getElem?_getD]
    rw [hget]
    obtain ⟨g, c, e1, e2, e3, e4⟩ := (h3 i hlt).ex
    have e2' : W1.ownsRow base 5 1 (.slice (some ⟨g, 0, none⟩) (rows.getD i []).length c) (rows.getD i []).length (nums .u8 (rows.getD i [])) := own_map e2 (fun g cs t hb hg hh => (hg1.block g (own_lt e2 hg).2 (by simp)).trans hh)
    have hgW : g < W.heap.size := (own_lt e2 rfl).2
    refine ⟨g, c, by rw [List.getElem?_append_left (by omega)]; exact e1, keep e2' (by by_cases hn : out.ownBlock = none; exact .inr hn; exact .inl (fun e => e3 e.symm)), hout2 g (by have := hg1.size; omega) e3, fun j hj g' n' c' hv => ?_⟩
    rw [List.getElem?_append_left (by omega)] at hv
    exact e4 j hj g' n' c' hv
  · obtain rfl : i = rows.length := by simp at hi; omega
    have hget : (rows ++ [x]).getD rows.length [] = x := by rw [List.getD_eq_getElem?_getD, List.getElem?_append_right (Nat.le_refl _)]; simp
    rw [hget]
    obtain ⟨g, c, hv, hb, hgs, _, _⟩ := own_some hv1 hx
    have hgW : g = W.heap.size := by rw [hv] at hat1; injection hat1
    have hne : out.ownBlock ≠ some g := fun e => by have := hob g e; omega
    refine ⟨g, c, by rw [List.getElem?_append_right (by omega), h1]; simp [hv], ?_, hout2 g hgs hne, fun j hj g' n' c' hv' => ?_⟩
    · rw [← hv]
      exact keep hv1 (.inl (by rw [hat1]; intro e; have := hob W.heap.size e.symm; omega))
    · rw [List.getElem?_append_left (by omega)] at hv'
      obtain ⟨g2, c2, f1, f2, _, _⟩ := (h3 j hj).ex
      rw [hv'] at f1
      injection f1 with f1
      injection f1 with f1 _ _
      injection f1 with f1
      injection f1 with f1 _ _
      have h5 : g2 < W.heap.size := (own_lt f2 rfl).2
      intro e6
      rw [f1, hgW] at e6
      omega
end Go.Proofs.YtdgilloblfbklaaGreatDoor
