/-
  The cursor's Take.
-/
import Derived.Test.YtipeeacplhgihaaRest
set_option linter.unusedVariables false
set_option linter.unusedSimpArgs false
namespace Go.Proofs.Ytipeeacplhgihaa
open Go.RowKit PkMath

theorem CurAt.step {base : Nat} {w : World} {g : Nat} {zs : List Int} {a : Nat} (h : CurAt base w g zs a) (b : Nat) (hb : b ≤ 8 * zs.length) : CurAt base (w.setCell ⟨g, 1, none⟩ (.int .i64 (b : Int))) g zs b := by
  obtain ⟨h1, h2, h3, A, c, h4, h5, h6⟩ := h
  refine ⟨h1, h2, hb, A, c, ?_, ?_, h6⟩
  · have := setCell_heap h4 1 (.int .i64 (b : Int))
    rw [this]; rfl
  · refine ⟨h5.1, h5.2.elim .inl ?_⟩
    rintro ⟨g2, cap, cur, e, e2, e3, r⟩
    refine .inr ⟨g2, cap, cur, e, e2, ?_, r⟩
    rw [Below.heap_setCell _ _ _ _ ?_]
    · exact e3
    · injection e with e _ _
      subst e
      exact h6 _ rfl
theorem CurAt.drewN {base : Nat} {w : World} {g : Nat} {zs : List Int} {a : Nat} (h : CurAt base w g zs a) (n : Nat) : CurAt base (w.drewN n) g zs a := h.below ⟨rfl, rfl, rfl, Nat.le_refl _, fun _ _ => rfl⟩
/-- The bytes are read. -/
theorem CurAt.byte {base : Nat} {w : World} {g : Nat} {zs : List Int} {a : Nat} (h : CurAt base w g zs a) (j : Nat) (hj : j < zs.length) : ∃ g2 c, w.heap[g]? = some (.cells #[.slice (some ⟨g2, 0, none⟩) zs.length c, .int .i64 (a : Int), .bool true] 52 (0, 0)) ∧ w.cell? ⟨g2, j, none⟩ = some (.int .u8 (zs.getD j 0)) := by
  obtain ⟨h1, h2, h3, A, c, h4, h5, h6⟩ := h
  obtain ⟨g2, c2, e, _⟩ := own_some h5 (by omega)
  injection e with e1 _ e3
  subst e1 e3
  exact ⟨g2, c, h4, own_at h5 j hj⟩

set_option maxRecDepth 100000 in
set_option maxHeartbeats 3200000 in
theorem Take_short {base : Nat} {w : World} {g : Nat} {zs : List Int} {at_ : Nat} (h : CurAt base w g zs at_) (wd : Nat) (h1 : 1 ≤ wd) (h2 : wd ≤ 128) (h3 : 8 * zs.length - at_ < wd) :
    Calls Try.prog 9 #[.pointer (some ⟨g, 0, none⟩), .int .i64 (wd : Int)] w fun e w' => e = .returned (.tuple #[bitsV 0 0 0, .int .i64 9]) ∧ Below w.heap.size w w' := by
  have hB := (Below.refl w.heap.size w).alloc (Nat.le_refl _) (.cells #[.int .i64 0, .int .u64 0, .int .u64 0] 33 (0,0))
  have H : Aside (CurAt base (w.alloc (.cells #[.int .i64 0, .int .u64 0, .int .u64 0] 33 (0,0))) g zs at_) := h.below hB
  have hal := h.2.2.1
  have hd1 : decide ((wd : Int) < 1) = false := decide_eq_false (by omega)
  have hd2 : decide (128 < (wd : Int)) = false := decide_eq_false (by omega)
  have hd3 : 8 * (zs.length : Int) - (at_ : Int) < (wd : Int) := by omega
  clear h
  generalize hn : zs.length = n at *
  go_enter Try.func9, Try.ntmps9
  go_wp2_with fail
  refine (gone_any H.out).mono ?_
  rintro e w' ⟨rfl, rfl⟩
  go_wp2_with fail
  refine (left1_any H.out).mono ?_
  rintro e w' ⟨rfl, q, rfl⟩
  rw [hn]
  go_wp2
  have h4 : ((w.alloc (.cells #[.int .i64 0, .int .u64 0, .int .u64 0] 33 (0,0))).drewN q).heap[w.heap.size]? = some (.cells #[.int .i64 0, .int .u64 0, .int .u64 0] 33 (0,0)) := heap_alloc_new ..
  refine bodyPost_ret (results_row_tmp rfl _ _ w.heap.size 33 _ (0,0) _ rfl (set3 h4 _ _ _) Try.underlying33 rfl (by kernel_rfl)) rfl ⟨rfl, ?_⟩
  exact (((below_drewN hB q).setCell (p := ⟨_, _, _⟩) (Nat.le_refl _) _).setCell (p := ⟨_, _, _⟩) (Nat.le_refl _) _).setCell (p := ⟨_, _, _⟩) (Nat.le_refl _) _
end Go.Proofs.Ytipeeacplhgihaa
