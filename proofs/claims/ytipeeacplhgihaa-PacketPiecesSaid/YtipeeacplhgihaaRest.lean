/-
  The cursor's rest.
-/
import Derived.Test.YtipeeacplhgihaaCursor
set_option linter.unusedVariables false
set_option linter.unusedSimpArgs false
namespace Go.Proofs.Ytipeeacplhgihaa
open Go.RowKit PkMath

theorem Reads.drop_ {w : World} {k : IntKind} {b off n : Nat} {xs : List Int} (h : Reads w k (some ⟨b, off, none⟩) n xs) (r : Nat) (hr : r ≤ n) : Reads w k (some ⟨b, off + r, none⟩) (n - r) (xs.drop r) := by
  refine ⟨by rw [List.length_drop, h.1], by have := h.2.1; omega, fun hn => ⟨_, rfl, fun j hj => ?_⟩⟩
  obtain ⟨b', off', e, _, hc⟩ := h.plain (by omega)
  injection e with e
  injection e with e1 e2
  subst e1 e2
  have := hc (r + j) (by omega)
  rw [Addr.add_lit, Nat.add_assoc, this, List.getD_eq_getElem?_getD, List.getD_eq_getElem?_getD, List.getElem?_drop]

set_option maxHeartbeats 1600000 in
set_option maxRecDepth 100000 in
theorem Rest_any {base : Nat} {w : World} {g : Nat} {zs : List Int} {at_ : Nat} (h : CurAt base w g zs at_) :
    Calls Try.prog 12 #[.pointer (some ⟨g, 0, none⟩)] w fun e w' => ∃ v, e = .returned v ∧ w'.ownsRow w.heap.size 5 1 v (zs.length - (at_ + 7) / 8) (nums .u8 (zs.drop ((at_ + 7) / 8))) ∧ Below w.heap.size w w' := by
  have H : Aside (CurAt base w g zs at_) := h
  obtain ⟨_, h1, h2, A, c, hb, hown, _⟩ := h
  have c0 : w.cell? ⟨g, 0, none⟩ = some (.slice A zs.length c) := cellOf hb 0
  have c1 : w.cell? ⟨g, 1, none⟩ = some (.int .i64 at_) := cellOf hb 1
  clear hb
  have HRD : Aside (Reads w .u8 A zs.length zs) := own_rd' hown
  have HO : Aside (w.drew.ownsRow w.heap.size 5 1 (.slice none 0 0) ([] : List Int).length (nums .u8 [])) := World.ownsRow_nil _ _ _ _
  obtain ⟨r, hr⟩ : ∃ r, r = (at_ + 7) / 8 := ⟨_, rfl⟩
  have hrn : r ≤ zs.length := by omega
  have s1 : IntKind.i64.wrap ((at_ : Int) + 7) = (at_ : Int) + 7 := by rw [IntKind.wrap_i64]; omega
  have s2 : ((at_ : Int) + 7) / 8 = (r : Int) := by omega
  have s3 : ((at_ : Int) + 7).tdiv 8 = (r : Int) := by rw [Int.tdiv_eq_ediv_of_nonneg (by omega)]; exact s2
  have s4 : (0 : Int) ≤ (r : Int) := by omega
  have s7 : IntKind.i64.wrap (r : Int) = (r : Int) := by rw [IntKind.wrap_i64]; omega
  have hglt := H.out.lt
  have s5 : (r : Int) ≤ (zs.length : Int) := by omega
  have hnc : zs.length ≤ c := by
    rcases hown.2 with ⟨e, _⟩ | ⟨_, cap, _, e, _, _, hc, _⟩
    · injection e with _ e2 e3; omega
    · injection e with _ _ e3; omega
  rw [← hr]
  have HRr : Aside (r = (at_ + 7) / 8) := hr
  clear hr
  rcases hown.2 with ⟨e, h0⟩ | ⟨g2, cap, cur, e, hg2, hb2, hc2, hcm, _⟩
  · injection e with e1 e2 e3
    subst e1 e3
    obtain rfl : r = 0 := by omega
    have hz : zs = [] := List.eq_nil_of_length_eq_zero h0
    subst hz
    have HD : Aside (Reads w.drew .u8 none 0 []) := Reads.nil _ _
    clear hown HRr
    go_enter Try.func12, Try.ntmps12
    go_wp2_with fail
    refine (gone_any H.out).mono ?_
    rintro e w' ⟨rfl, rfl⟩
    simp only [List.length_nil, Int.natCast_zero] at *
    go_wp2_with fail
    go_region_held3 (fun w' => w'.cell? ⟨g, 0, none⟩ = some (.slice none 0 0) ∧ w'.cell? ⟨g, 1, none⟩ = some (.int .i64 at_)) (first | go_keep | exact ⟨c0, c1⟩)
      ((refine step_append_row w.heap.size (by rfl) _ _ 24 5 .u8 1 (by rfl) Try.underlying24 infoByte (by omega) (.slice none 0 0) [] [] _ 0 0 (by rfl) (by rfl) (by exact HO.out) (by exact HD.out) (by exact Nat.le_refl _) (by simp) ?_; intro v1 w1 hown1 hg1 hat1; have hb1 : Below w.heap.size w w1 := (Below.refl _ _).drew.trans (own_grown HO.out hg1 (Nat.le_refl _)); have c0 := (hb1.cell (p := ⟨g, 0, none⟩) hglt).trans c0; have c1 := (hb1.cell (p := ⟨g, 1, none⟩) hglt).trans c1))
    go_wp2
    go_ret
    exact ⟨v1, rfl, by simpa using hown1, hb1⟩
  · injection e with e1 e2 e3
    subst e1 e3
    have hcm' : c ≤ 9223372036854775807 := by simpa [maxLen] using hcm
    have hdl : Aside ((zs.drop r).length = zs.length - r) := by show List.length _ = _; rw [List.length_drop]
    by_cases hcr : c = r
    · have hrn2 : zs.length = r := by omega
      have HD : Aside (Reads w.drew .u8 (some ⟨g2, 0, none⟩) 0 (zs.drop r)) := ⟨by rw [hdl.out]; omega, by omega, fun h => by omega⟩
      have c0 : w.cell? ⟨g, 0, none⟩ = some (.slice (some ⟨g2, 0, none⟩) r r) := by rw [c0, hrn2, hcr]
      rw [hrn2] at hdl s5 hrn ⊢
      subst hcr
      clear hown hb2 HRr
      generalize zs.drop c = ys at *
      have HY : Aside (ys.length = c - c) := by show ys.length = c - c; rw [hdl.out]
      go_enter Try.func12, Try.ntmps12
      go_wp2_with fail
      refine (gone_any H.out).mono ?_
      rintro e w' ⟨rfl, rfl⟩
      go_wp2_with fail
      go_region_held3 (fun w' => w'.cell? ⟨g, 0, none⟩ = some (.slice (some ⟨g2, 0, none⟩) c c) ∧ w'.cell? ⟨g, 1, none⟩ = some (.int .i64 at_)) (first | go_keep | exact ⟨c0, c1⟩)
        ((refine step_append_row w.heap.size (by rfl) _ _ 24 5 .u8 1 (by rfl) Try.underlying24 infoByte (by omega) (.slice none 0 0) [] ys _ 0 0 (by rfl) (by first | rfl | simp) (by exact HO.out) (by exact HD.out) (by exact Nat.le_refl _) (by simp) ?_; intro v1 w1 hown1 hg1 hat1; have hb1 : Below w.heap.size w w1 := (Below.refl _ _).drew.trans (own_grown HO.out hg1 (Nat.le_refl _)); have c0 := (hb1.cell (p := ⟨g, 0, none⟩) hglt).trans c0; have c1 := (hb1.cell (p := ⟨g, 1, none⟩) hglt).trans c1))
      go_wp2
      go_ret
      exact ⟨v1, rfl, by rw [List.nil_append, HY.out] at hown1; exact hown1, hb1⟩
    · have HD : Aside (Reads w.drew .u8 (some ⟨g2, r, none⟩) (zs.length - r) (zs.drop r)) := by have := (HRD.out.below ((Below.refl _ _).drew)).drop_ r hrn; rwa [Nat.zero_add] at this
      clear hown hb2
      generalize zs.drop r = ys at *
      generalize hn : zs.length = n at *
      have s6 : (n : Int) ≤ (c : Int) := by omega
      have hsl : ∀ W : World, (Instr.slice 24 (.slice (some ⟨g2, 0, none⟩) n c) (some (.int .i64 (r : Int))) none none).run Try.prog W = .ok (.slice (some ⟨g2, r, none⟩) (n - r) (c - r)) W := by
        intro W
        rw [run_slice_l (P := Try.prog) W 24 (some ⟨g2, 0, none⟩) n c (by kernel_rfl) .i64 (r : Int) s4 s5]
        have hsz : (sizeOf (Try.prog.elem 24)).run Try.prog W = .ok 1 W := by kernel_rfl
        rw [hsz]
        simp [sliced, Result.andThen, hcr, Addr.add_lit]
      have HCR : Aside (¬ c = r) := hcr
      clear hcr
      go_enter Try.func12, Try.ntmps12
      go_wp2_with fail
      refine (gone_any H.out).mono ?_
      rintro e w' ⟨rfl, rfl⟩
      go_wp2_with fail
      go_region_held3 (fun w' => w'.cell? ⟨g, 0, none⟩ = some (.slice (some ⟨g2, 0, none⟩) n c) ∧ w'.cell? ⟨g, 1, none⟩ = some (.int .i64 at_)) (first | go_keep | exact ⟨c0, c1⟩)
        ((refine step_append_row w.heap.size (by rfl) _ _ 24 5 .u8 1 (by rfl) Try.underlying24 infoByte (by omega) (.slice none 0 0) [] ys _ (n - r) (c - r) (by rfl) (by rfl) (by exact HO.out) (by exact HD.out) (by exact Nat.le_refl _) (by simp; omega) ?_; intro v1 w1 hown1 hg1 hat1; have hb1 : Below w.heap.size w w1 := (Below.refl _ _).drew.trans (own_grown HO.out hg1 (Nat.le_refl _)); have c0 := (hb1.cell (p := ⟨g, 0, none⟩) hglt).trans c0; have c1 := (hb1.cell (p := ⟨g, 1, none⟩) hglt).trans c1))
      go_wp2
      go_ret
      exact ⟨v1, rfl, by rw [List.nil_append, hdl.out] at hown1; exact hown1, hb1⟩
end Go.Proofs.Ytipeeacplhgihaa
