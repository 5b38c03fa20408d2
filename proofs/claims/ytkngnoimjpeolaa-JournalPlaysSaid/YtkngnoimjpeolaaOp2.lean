/-
  A disk that is not there: no pointer, or no room.
-/
import Derived.Test.YtkngnoimjpeolaaOp1
set_option linter.unusedVariables false
set_option linter.unusedSimpArgs false
namespace Go.Proofs.Ytkngnoimjpeolaa
open Go.RowKit SumsMath

theorem ready_nil (w : World) : Calls Try.prog 34 #[.pointer none] w fun e w' => e = .returned (.int .i64 2) ∧ w = w' := by
  go_enter Try.func34, Try.ntmps34
  go_wp2
  go_ret
  exact ⟨rfl, rfl⟩
theorem ready_zero (g : Nat) (w : World) (h0 : w.cell? ⟨g, 0, none⟩ = some (.int .i64 0)) : Calls Try.prog 34 #[.pointer (some ⟨g, 0, none⟩)] w fun e w' => e = .returned (.int .i64 2) ∧ w = w' := by
  go_enter Try.func34, Try.ntmps34
  go_wp2
  go_ret
  exact ⟨rfl, rfl⟩
section
variable {w : World} {A : Option Addr} {m c : Nat} {xs : List Int} {P : Option Addr}
theorem trim_none (n : Int) (hr : Calls Try.prog 34 #[.pointer P] w fun e w' => e = .returned (.int .i64 2) ∧ w = w') : Calls Try.prog 33 #[.pointer P, .int .i64 n] w fun e w' => e = .returned (.int .i64 2) ∧ w = w' := by
  have HR := aside' hr
  clear hr
  go_enter Try.func33, Try.ntmps33
  go_wp2_with fail
  refine Calls.mono HR.out ?_
  rintro e w' ⟨rfl, rfl⟩
  go_wp2
  go_ret
  exact ⟨rfl, rfl⟩
theorem append_none (hr : Calls Try.prog 34 #[.pointer P] w fun e w' => e = .returned (.int .i64 2) ∧ w = w') : Calls Try.prog 22 #[.pointer P, .slice A m c] w fun e w' => e = .returned (.int .i64 2) ∧ w = w' := by
  have HR := aside' hr
  clear hr
  go_enter Try.func22, Try.ntmps22
  go_wp2_with fail
  refine Calls.mono HR.out ?_
  rintro e w' ⟨rfl, rfl⟩
  go_wp2
  go_ret
  exact ⟨rfl, rfl⟩
theorem up_none (hr : Calls Try.prog 34 #[.pointer P] w fun e w' => e = .returned (.int .i64 2) ∧ w = w') : Calls Try.prog 15 #[.pointer P] w fun e w' => e = .returned (.int .i64 2) ∧ w = w' := by
  have HR := aside' hr
  clear hr
  go_enter Try.func15, Try.ntmps15
  go_wp2_with fail
  refine Calls.mono HR.out ?_
  rintro e w' ⟨rfl, rfl⟩
  go_wp2
  go_ret
  exact ⟨rfl, rfl⟩
theorem fail_none (n : Int) : Calls Try.prog 14 #[.pointer none, .int .i64 n] w fun e w' => e = .returned (.int .i64 2) ∧ Below w.heap.size w w' := by
  have hb : Below w.heap.size w (w.alloc (.cells #[.int .i64 n] 3)) := (Below.refl _ _).alloc (Nat.le_refl _) _
  go_enter Try.func14, Try.ntmps14
  go_wp2_with fail
  refine Calls.mono (ready_nil _) ?_
  rintro e w' ⟨rfl, rfl⟩
  go_wp2
  go_ret
  exact ⟨rfl, hb⟩
theorem down_none : Calls Try.prog 25 #[.pointer none] w fun e w' => e = .returned (.bool false) ∧ w = w' := by
  go_enter Try.func25, Try.ntmps25
  go_wp2
  go_ret
  exact ⟨rfl, rfl⟩
theorem bytes_none : Calls Try.prog 28 #[.pointer none] w fun e w' => e = .returned (.slice none 0 0) ∧ w = w' := by
  go_enter Try.func28, Try.ntmps28
  go_wp2
  go_ret
  exact ⟨rfl, rfl⟩
theorem Add_none (hx : Bytes xs) (HR : Reads w .u8 A m xs) (hr : ∀ w1, Below w.heap.size w w1 → Calls Try.prog 34 #[.pointer P] w1 fun e w' => e = .returned (.int .i64 2) ∧ w1 = w') :
    Calls Try.prog 13 #[.pointer P, .slice A m c] w fun e w' => e = .returned (.int .i64 2) ∧ Below w.heap.size w w' := by
  by_cases hc : 1 ≤ m ∧ m ≤ 65537
  · have HF := aside' (Frame_ok A m c xs w hx HR hc.1 hc.2)
    have HT := aside' hr
    clear hx HR hr
    go_enter Try.func13, Try.ntmps13
    go_wp2_with fail
    refine Calls.mono HF.out ?_
    rintro e w1 ⟨q, rfl, hq1, hq2, hb1⟩
    have HB := aside' (trim_none (-1) (HT.out w1 hb1))
    clear hq1 hq2 HF
    go_wp2_with fail
    refine Calls.mono HB.out ?_
    rintro e w2 ⟨rfl, rfl⟩
    go_wp2
    go_ret
    exact ⟨rfl, hb1⟩
  · have HF := aside' (Frame_no A m c HR.2.1 (by omega) w)
    have HB := aside' (trim_none (-1) (hr w (Below.refl _ _)))
    clear hx HR hr hc
    go_enter Try.func13, Try.ntmps13
    go_wp2_with fail
    refine Calls.mono HF.out ?_
    rintro e w1 ⟨rfl, rfl⟩
    go_wp2_with fail
    refine Calls.mono HB.out ?_
    rintro e w2 ⟨rfl, rfl⟩
    go_wp2
    go_ret
    exact ⟨rfl, Below.refl _ _⟩
theorem Open_none (hr : ∀ w1, Below w.heap.size w w1 → Calls Try.prog 34 #[.pointer P] w1 fun e w' => e = .returned (.int .i64 2) ∧ w1 = w')
    (hb : Calls Try.prog 28 #[.pointer P] w fun e w' => ∃ A c, e = .returned (.slice A 0 c) ∧ Below w.heap.size w w') :
    Calls Try.prog 16 #[.pointer P] w fun e w' => e = .returned (.tuple #[.slice none 0 0, .int .i64 2]) ∧ Below w.heap.size w w' := by
  have HB := aside' hb
  have HT := aside' hr
  clear hb hr
  go_enter Try.func16, Try.ntmps16
  go_wp2_with fail
  refine Calls.mono HB.out ?_
  rintro e w1 ⟨A, c, rfl, hb1⟩
  have HRd := aside' (Read_ok A 0 c [] w1 (bytes_of [] rfl) ⟨rfl, by decide, fun h => by omega⟩ (by decide) (by omega))
  have HB1 := aside' hb1
  have e1 : JMath.recsF (sumF 2) [] = [] := by decide +kernel
  rw [e1] at HRd
  clear hb1 HB e1
  go_wp2_with fail
  refine Calls.mono HRd.out ?_
  rintro e w2 ⟨out, rfl, hrows, hb2⟩
  have HB2 := aside' (HB1.out.trans (hb2.mono HB1.out.size))
  have HTr := aside' (trim_none (JMath.total [] : Int) (HT.out w2 HB2.out))
  clear hrows hb2 HRd
  go_wp2_with fail
  refine Calls.mono HTr.out ?_
  rintro e w3 ⟨rfl, rfl⟩
  go_wp2
  go_ret2
  exact ⟨rfl, HB2.out⟩
end
/-- A disk of no room, in a block of its own. -/
def Zero (W : World) (z : Nat) : Prop := W.heap[z]? = some (.cells #[.int .i64 0, .slice none 0 0, .bool false, .nilFunc] 58 (0, 0))
theorem Zero.later {W W' : World} {z : Nat} (h : Zero W z) (hb : Below W.heap.size W W') : Zero W' z := (hb.block z (Array.getElem?_eq_some_iff.1 h).1).trans h
theorem zero_open {W : World} {z : Nat} (h : Zero W z) : Calls Try.prog 16 #[.pointer (some ⟨z, 0, none⟩)] W fun e w' => e = .returned (.tuple #[.slice none 0 0, .int .i64 2]) ∧ Below W.heap.size W w' :=
  Open_none (fun w1 hb => ready_zero z w1 (cellOf (h.later hb) 0)) ((bytes_any z none 0 0 [] W (cellOf h 1) ⟨rfl, by decide, fun h => by omega⟩ (by decide)).mono fun e w' ⟨v, he, hown, hb⟩ => by
    obtain ⟨A2, L2, c2, rfl, hL⟩ := own_form hown
    have := hL.out
    simp at this
    subst this
    exact ⟨A2, c2, he, hb⟩)
theorem zero_add {W : World} {z : Nat} {A : Option Addr} {m c : Nat} {xs : List Int} (h : Zero W z) (hx : Bytes xs) (HR : Reads W .u8 A m xs) : Calls Try.prog 13 #[.pointer (some ⟨z, 0, none⟩), .slice A m c] W fun e w' => e = .returned (.int .i64 2) ∧ Below W.heap.size W w' :=
  Add_none hx HR (fun w1 hb => ready_zero z w1 (cellOf (h.later hb) 0))
theorem nil_open (W : World) : Calls Try.prog 16 #[.pointer none] W fun e w' => e = .returned (.tuple #[.slice none 0 0, .int .i64 2]) ∧ Below W.heap.size W w' :=
  Open_none (fun w1 _ => ready_nil w1) (bytes_none.mono fun e w' ⟨he, hw⟩ => ⟨none, 0, he, hw ▸ Below.refl _ _⟩)
theorem nil_add {W : World} {A : Option Addr} {m c : Nat} {xs : List Int} (hx : Bytes xs) (HR : Reads W .u8 A m xs) : Calls Try.prog 13 #[.pointer none, .slice A m c] W fun e w' => e = .returned (.int .i64 2) ∧ Below W.heap.size W w' :=
  Add_none hx HR (fun w1 _ => ready_nil w1)
theorem new_off (room : Int) (w : World) (h : room < 1 ∨ 16777216 < room) :
    Calls Try.prog 12 #[.int .i64 room] w fun e w' => e = .returned (.tuple #[.pointer none, .int .i64 1]) ∧ w = w' := by
  by_cases h1 : room < 1
  · have g1 : decide (room < 1) = true := decide_eq_true h1
    go_enter Try.func12, Try.ntmps12
    go_wp2
    go_ret2
    exact ⟨rfl, rfl⟩
  · have g1 : decide (room < 1) = false := decide_eq_false h1
    have g2 : decide (16777216 < room) = true := decide_eq_true (by omega)
    go_enter Try.func12, Try.ntmps12
    go_wp2
    go_ret2
    exact ⟨rfl, rfl⟩
end Go.Proofs.Ytkngnoimjpeolaa
