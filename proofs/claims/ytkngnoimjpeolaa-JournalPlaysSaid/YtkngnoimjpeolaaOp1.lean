/-
  What is done to a disk, as a machine; the disk's contracts, all cases in one.
-/
import Derived.Test.YtkngnoimjpeolaaJBack
set_option linter.unusedVariables false
set_option linter.unusedSimpArgs false
namespace Go.Proofs.Ytkngnoimjpeolaa
open Go.RowKit SumsMath

structure DSt where
  bs : List Int
  off : Bool
  fl : Option Int
def apF (room : Int) (s : DSt) (ys : List Int) : Int × DSt :=
  if s.off then (13, s) else if room - (s.bs.length : Int) < (ys.length : Int) then (10, s) else match s.fl with
    | some n => (13, ⟨s.bs ++ ys.take n.toNat, true, none⟩)
    | none => (0, ⟨s.bs ++ ys, false, none⟩)
def addF (room : Int) (s : DSt) (xs : List Int) : Int × DSt := if 1 ≤ xs.length ∧ xs.length ≤ 65537 then apF room s (frm xs) else (1, s)
def failF (s : DSt) (n : Int) : Int × DSt := if s.off then (13, s) else if n < 0 then (1, s) else (0, ⟨s.bs, false, some n⟩)
def upF (s : DSt) : DSt := ⟨s.bs, false, none⟩
def openF (s : DSt) : Int × List (List Int) × DSt := if s.off then (13, [], s) else (0, JMath.recsF (sumF 2) s.bs, ⟨s.bs.take (JMath.total (JMath.recsF (sumF 2) s.bs)), false, s.fl⟩)
structure Inv (room : Int) (s : DSt) : Prop where
  h1 : 1 ≤ room
  h2 : room ≤ 16777216
  hx : Bytes s.bs
  hl : (s.bs.length : Int) ≤ room
  hf : ∀ n, s.fl = some n → 0 ≤ n
theorem bytes_app {a b : List Int} (ha : Bytes a) (hb : Bytes b) : Bytes (a ++ b) := fun j => by
  rcases Nat.lt_or_ge j a.length with hj | hj
  · rw [List.getD_eq_getElem?_getD, List.getElem?_append_left hj, ← List.getD_eq_getElem?_getD]; exact ha j
  · rw [List.getD_eq_getElem?_getD, List.getElem?_append_right hj, ← List.getD_eq_getElem?_getD]; exact hb _
theorem bytes_frm {x : List Int} (h1 : 1 ≤ x.length) (h2 : x.length ≤ 65537) (hb : Bytes x) : Bytes (frm x) := by
  have h := Reads.bytes_flat (rows := [x]) (fun y hy => by rw [List.mem_singleton.1 hy]; have h5 := sumF_bd 2 _ hb; exact ⟨h1, h2, h5.1, h5.2⟩) (fun y hy => by rw [List.mem_singleton.1 hy]; exact hb)
  have e : JMath.flat (sumF 2) [x] = frm x := by simp [JMath.flat, frm]
  rwa [e] at h
theorem Inv.ap {room : Int} {s : DSt} {ys : List Int} (h : Inv room s) (hy : Bytes ys) : Inv room (apF room s ys).2 := by
  unfold apF
  split
  · exact h
  · split
    · exact h
    · rename_i hr
      split
      · refine ⟨h.h1, h.h2, bytes_app h.hx (bytes_take hy _), ?_, fun n e => by cases e⟩
        have := List.length_take_le' (Int.toNat (by assumption)) ys
        simp only [List.length_append, List.length_take]
        omega
      · refine ⟨h.h1, h.h2, bytes_app h.hx hy, ?_, fun n e => by cases e⟩
        simp only [List.length_append]
        omega
theorem Inv.add {room : Int} {s : DSt} {xs : List Int} (h : Inv room s) (hy : Bytes xs) : Inv room (addF room s xs).2 := by
  unfold addF
  split
  · rename_i hc
    exact h.ap (bytes_frm hc.1 hc.2 hy)
  · exact h
theorem Inv.fail {room : Int} {s : DSt} {n : Int} (h : Inv room s) : Inv room (failF s n).2 := by
  unfold failF
  split
  · exact h
  · split
    · exact h
    · exact ⟨h.h1, h.h2, h.hx, h.hl, fun k e => by injection e with e; omega⟩
theorem Inv.up {room : Int} {s : DSt} (h : Inv room s) : Inv room (upF s) := ⟨h.h1, h.h2, h.hx, h.hl, fun k e => by cases e⟩
theorem Inv.open_ {room : Int} {s : DSt} (h : Inv room s) : Inv room (openF s).2.2 := by
  unfold openF
  split
  · exact h
  · refine ⟨h.h1, h.h2, bytes_take h.hx _, ?_, h.hf⟩
    have := h.hl
    simp only [List.length_take]
    omega

def DAt (F : Nat → Prop) (w : World) (g : Nat) (room : Int) (s : DSt) : Prop := DiskAt F w g room s.bs s.off s.fl
def DTo (F : Nat → Prop) (w w' : World) (g : Nat) (room : Int) (s : DSt) : Prop := DiskTo F w w' g room s.bs s.off s.fl
section
variable {F : Nat → Prop} {w : World} {g : Nat} {room : Int} {s : DSt} {xs ys : List Int} {A : Option Addr} {m c : Nat}
theorem D_append (h : DAt F w g room s) (hi : Inv room s) (HR : Reads w .u8 A m ys) (hmc : m ≤ c) :
    Calls Try.prog 22 #[.pointer (some ⟨g, 0, none⟩), .slice A m c] w fun e w' => e = .returned (.int .i64 (apF room s ys).1) ∧ DTo F w w' g room (apF room s ys).2 := by
  obtain ⟨bs, off, fl⟩ := s
  have hm : ys.length = m := HR.1
  have hl := hi.hl
  have h1 := hi.h1
  have h2 := hi.h2
  simp only at hl
  unfold apF
  cases off with
  | true => exact (Append_off h h1).mono fun e w' ⟨he, hw⟩ => ⟨he, DiskTo.same h (hw ▸ Below.refl _ _)⟩
  | false =>
    simp only [Bool.false_eq_true, if_false]
    rw [hm]
    by_cases hr : room - (bs.length : Int) < (m : Int)
    · rw [if_pos hr]
      exact (Append_full h h1 h2 hl HR.2.1 hr).mono fun e w' ⟨he, q, hw⟩ => ⟨he, DiskTo.same h (hw ▸ below_drewN (Below.refl _ _) q)⟩
    · rw [if_neg hr]
      cases fl with
      | some n => exact Append_fail h HR hmc h1 h2 (by omega)
      | none => exact Append_ok h HR h1 h2 (by omega)
theorem fail_off (g : Nat) (room : Int) (n : Int) (w : World) (h0 : w.cell? ⟨g, 0, none⟩ = some (.int .i64 room)) (h2 : w.cell? ⟨g, 2, none⟩ = some (.bool true)) (hr : (room == 0) = false) :
    Calls Try.prog 14 #[.pointer (some ⟨g, 0, none⟩), .int .i64 n] w fun e w' => e = .returned (.int .i64 13) ∧ Below w.heap.size w w' := by
  have hb : Below w.heap.size w (w.alloc (.cells #[.int .i64 n] 3)) := (Below.refl _ _).alloc (Nat.le_refl _) _
  have HA := aside' (ready_any g room _ _ ((hb.cell (p := ⟨g, 0, none⟩) (World.block_lt_of_cell? w _ h0)).trans h0) ((hb.cell (p := ⟨g, 2, none⟩) (World.block_lt_of_cell? w _ h2)).trans h2) hr)
  go_enter Try.func14, Try.ntmps14
  go_wp2_with fail
  refine Calls.mono HA.out ?_
  rintro e w' ⟨rfl, rfl⟩
  go_wp2
  go_ret
  exact ⟨rfl, hb⟩
theorem fail_neg (g : Nat) (room : Int) (n : Int) (w : World) (h0 : w.cell? ⟨g, 0, none⟩ = some (.int .i64 room)) (h2 : w.cell? ⟨g, 2, none⟩ = some (.bool false)) (hr : (room == 0) = false) (hn : n < 0) :
    Calls Try.prog 14 #[.pointer (some ⟨g, 0, none⟩), .int .i64 n] w fun e w' => e = .returned (.int .i64 1) ∧ Below w.heap.size w w' := by
  have hb : Below w.heap.size w (w.alloc (.cells #[.int .i64 n] 3)) := (Below.refl _ _).alloc (Nat.le_refl _) _
  have HA := aside' (ready_any g room _ _ ((hb.cell (p := ⟨g, 0, none⟩) (World.block_lt_of_cell? w _ h0)).trans h0) ((hb.cell (p := ⟨g, 2, none⟩) (World.block_lt_of_cell? w _ h2)).trans h2) hr)
  have g1 : decide (n < 0) = true := decide_eq_true hn
  go_enter Try.func14, Try.ntmps14
  go_wp2_with fail
  refine Calls.mono HA.out ?_
  rintro e w' ⟨rfl, rfl⟩
  go_wp2
  go_ret
  exact ⟨rfl, hb⟩
theorem D_fail (n : Int) (h : DAt F w g room s) (hi : Inv room s) :
    Calls Try.prog 14 #[.pointer (some ⟨g, 0, none⟩), .int .i64 n] w fun e w' => e = .returned (.int .i64 (failF s n).1) ∧ DTo F w w' g room (failF s n).2 := by
  obtain ⟨bs, off, fl⟩ := s
  have h1 := hi.h1
  have h' := h
  obtain ⟨hg, hF, v, fv, hb, hown, hv, hfl⟩ := h'
  unfold failF
  cases off with
  | true => exact (fail_off g room n w (cellOf hb 0) (cellOf hb 2) (by simp; omega)).mono fun e w' ⟨he, hw⟩ => ⟨he, DiskTo.same h hw⟩
  | false =>
    simp only [Bool.false_eq_true, if_false]
    by_cases hn : n < 0
    · rw [if_pos hn]
      exact (fail_neg g room n w (cellOf hb 0) (cellOf hb 2) (by simp; omega) hn).mono fun e w' ⟨he, hw⟩ => ⟨he, DiskTo.same h hw⟩
    · rw [if_neg hn]
      exact Fail_ok h h1 (by omega)
theorem D_up (h : DAt F w g room s) (hi : Inv room s) :
    Calls Try.prog 15 #[.pointer (some ⟨g, 0, none⟩)] w fun e w' => e = .returned (.int .i64 0) ∧ DTo F w w' g room (upF s) := Up_ok h hi.h1
theorem D_down (h : DAt F w g room s) :
    Calls Try.prog 25 #[.pointer (some ⟨g, 0, none⟩)] w fun e w' => e = .returned (.bool s.off) ∧ w = w' := Down_ok h
theorem D_bytes (h : DAt F w g room s) (hi : Inv room s) :
    Calls Try.prog 28 #[.pointer (some ⟨g, 0, none⟩)] w fun e w' => ∃ v, e = .returned v ∧ w'.ownsRow w.heap.size 5 1 v s.bs.length (nums .u8 s.bs) ∧ Below w.heap.size w w' := Bytes_ok h (by have := hi.hl; have := hi.h2; omega)
theorem D_trim (h : DAt F w g room s) (hi : Inv room s) :
    Calls Try.prog 33 #[.pointer (some ⟨g, 0, none⟩), .int .i64 (-1)] w fun e w' => e = .returned (.int .i64 (if s.off then 13 else 1)) ∧ w = w' := by
  obtain ⟨bs, off, fl⟩ := s
  cases off with
  | true => exact Trim_off h hi.h1
  | false => exact Trim_neg h hi.h1
/-- Add where bytes may not be framed. -/
theorem Add_refused (T : Int) (hT : T ≠ 2) (hm : m ≤ 9223372036854775807) (hb : m < 1 ∨ 65537 < m) (htrim : Calls Try.prog 33 #[.pointer (some ⟨g, 0, none⟩), .int .i64 (-1)] w fun e w' => e = .returned (.int .i64 T) ∧ w = w') :
    Calls Try.prog 13 #[.pointer (some ⟨g, 0, none⟩), .slice A m c] w fun e w' => e = .returned (.int .i64 1) ∧ w' = w := by
  have HF := aside' (Frame_no A m c hm hb w)
  have HT := aside' htrim
  have t2 : (T == 2) = false := by simpa using hT
  clear hb htrim hT
  go_enter Try.func13, Try.ntmps13
  go_wp2_with fail
  refine Calls.mono HF.out ?_
  rintro e w1 ⟨rfl, rfl⟩
  go_wp2_with fail
  refine Calls.mono HT.out ?_
  rintro e w2 ⟨rfl, rfl⟩
  go_wp2
  go_ret
  exact ⟨rfl, rfl⟩
theorem D_add (h : DAt F w g room s) (hi : Inv room s) (hx : Bytes xs) (HR : Reads w .u8 A m xs) :
    Calls Try.prog 13 #[.pointer (some ⟨g, 0, none⟩), .slice A m c] w fun e w' => e = .returned (.int .i64 (addF room s xs).1) ∧ DTo F w w' g room (addF room s xs).2 := by
  have hm : xs.length = m := HR.1
  unfold addF
  rw [hm]
  by_cases hc : 1 ≤ m ∧ m ≤ 65537
  · rw [if_pos hc]
    exact Add_with _ _ _ hx HR hc.1 hc.2 (show (if s.off then (13 : Int) else 1) ≠ 2 by split <;> decide) (fun w1 hb => D_trim (DiskAt.later h hb) hi)
      (fun w1 q hb hq => (D_append (DiskAt.later h hb) hi hq (Nat.le_refl _)).mono fun e w' ⟨he, ht⟩ => ⟨he, DiskTo.after hb ht⟩)
  · rw [if_neg hc]
    exact (Add_refused _ (show (if s.off then (13 : Int) else 1) ≠ 2 by split <;> decide) HR.2.1 (by omega) (D_trim h hi)).mono fun e w' ⟨he, hw⟩ => ⟨he, DiskTo.same h (hw ▸ Below.refl _ _)⟩
def OpenedS (F : Nat → Prop) (w : World) (g : Nat) (room : Int) (s : DSt) (e : Ending) (w' : World) : Prop :=
  ∃ out, e = .returned (.tuple #[out, .int .i64 (openF s).1]) ∧ RowsAt w' w.heap.size out (openF s).2.1 ∧ DTo F w w' g room (openF s).2.2
theorem D_open (h : DAt F w g room s) (hi : Inv room s) : Calls Try.prog 16 #[.pointer (some ⟨g, 0, none⟩)] w (OpenedS F w g room s) := by
  obtain ⟨bs, off, fl⟩ := s
  have hl := hi.hl
  have h2 := hi.h2
  simp only at hl
  have hb2 : bs.length ≤ 16777216 := by omega
  unfold OpenedS openF
  cases off with
  | true => exact (Open_off h hi.hx hi.h1 hb2).mono fun e w' ⟨he, hb⟩ => ⟨_, he, RowsAt.nil _ _, DiskTo.same h hb⟩
  | false => exact (Open_ok h hi.hx hi.h1 hb2).mono fun e w' ⟨out, he, hr, ht⟩ => ⟨out, he, hr, ht⟩
end
end Go.Proofs.Ytkngnoimjpeolaa
