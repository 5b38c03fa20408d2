/-
  What is done to a disk, as a machine; the contracts of package disk, all cases in one.
-/
import Derived.Test.YtmoakgkoahjijaaGreatDoorDisk3
import Derived.Test.YtmoakgkoahjijaaGreatDoorBookK
set_option linter.unusedVariables false
set_option linter.unusedSimpArgs false
set_option maxRecDepth 100000
namespace Go.Proofs.YtmoakgkoahjijaaGreatDoor
namespace SumsMath
def Bytes (xs : List Int) : Prop := ∀ j, 0 ≤ xs.getD j 0 ∧ xs.getD j 0 ≤ 255
end SumsMath
open Go.RowKit SumsMath

theorem bytes_take {xs : List Int} (h : Bytes xs) (k : Nat) : Bytes (xs.take k) := fun j => by
  by_cases hj : j < k
  · have := h j
    simpa [List.getD_eq_getElem?_getD, List.getElem?_take, hj] using this
  · simp [List.getD_eq_getElem?_getD, List.getElem?_take, hj]
structure DSt where
  bs : List Int
  off : Bool
  fl : Option Int
def apF (room : Int) (s : DSt) (ys : List Int) : Int × DSt :=
  if s.off then (13, s) else if room - (s.bs.length : Int) < (ys.length : Int) then (10, s) else match s.fl with
    | some n => (13, ⟨s.bs ++ ys.take n.toNat, true, none⟩)
    | none => (0, ⟨s.bs ++ ys, false, none⟩)
def failF (s : DSt) (n : Int) : Int × DSt := if s.off then (13, s) else if n < 0 then (1, s) else (0, ⟨s.bs, false, some n⟩)
def upF (s : DSt) : DSt := ⟨s.bs, false, none⟩
def trimF (s : DSt) (n : Int) : Int × DSt := if s.off then (13, s) else if n < 0 ∨ (s.bs.length : Int) < n then (1, s) else (0, ⟨s.bs.take n.toNat, false, s.fl⟩)
structure Inv (room : Int) (s : DSt) : Prop where
  h1 : 1 ≤ room
  h2 : room ≤ 16777216
  hx : Bytes s.bs
  hl : (s.bs.length : Int) ≤ room
  hf : ∀ n, s.fl = some n → 0 ≤ n
theorem bytes_app {a b : List Int} (ha : Bytes a) (hb : Bytes b) : Bytes (a ++ b) := fun j => by
  rcases Nat.lt_or_ge j a.length with hj | hj
  · rw [List.getD_eq_getElem?_getD, List.getElem?_append_left hj, ← List.getD_eq_getElem?_getD]; exact ha j
  · rw [List.getD_eq_getElem?_getD, List.getElem?_append_right hj, ← List.getD_eq_getElem?_getD]; exact hb _
theorem Inv.ap {room : Int} {s : DSt} {ys : List Int} (h : Inv room s) (hy : Bytes ys) : Inv room (apF room s ys).2 := by
  unfold apF
  split
  · exact h
  · split
    · exact h
    · rename_i hr
      split
      · refine ⟨h.h1, h.h2, bytes_app h.hx (bytes_take hy _), ?_, fun n e => by cases e⟩
        have := List.length_take_le' (Int.toNat (by assumption)) ys
        simp only [List.length_append, List.length_take]
        omega
      · refine ⟨h.h1, h.h2, bytes_app h.hx hy, ?_, fun n e => by cases e⟩
        simp only [List.length_append]
        omega
theorem Inv.fail {room : Int} {s : DSt} {n : Int} (h : Inv room s) : Inv room (failF s n).2 := by
  unfold failF
  split
  · exact h
  · split
    · exact h
    · exact ⟨h.h1, h.h2, h.hx, h.hl, fun k e => by injection e with e; omega⟩
theorem Inv.up {room : Int} {s : DSt} (h : Inv room s) : Inv room (upF s) := ⟨h.h1, h.h2, h.hx, h.hl, fun k e => by cases e⟩
theorem Inv.trim {room : Int} {s : DSt} {n : Int} (h : Inv room s) : Inv room (trimF s n).2 := by
  unfold trimF
  split
  · exact h
  · split
    · exact h
    · refine ⟨h.h1, h.h2, bytes_take h.hx _, ?_, h.hf⟩
      have := h.hl
      simp only [List.length_take]
      omega
theorem DiskTo.after {F : Nat → Prop} {w w1 w' : World} {g : Nat} {room : Int} {bs : List Int} {off : Bool} {fl : Option Int} (hb : Below w.heap.size w w1) (h : DiskTo F w1 w' g room bs off fl) : DiskTo F w w' g room bs off fl := by
  obtain ⟨hf, F', hF', hD⟩ := h
  exact ⟨(Foot.ofBelow hb F).trans hf (fun i hi => .inl hi), F', fun k hk => (hF' k hk).imp id (fun h => Nat.le_trans hb.size h), hD⟩
theorem DiskAt.later {F : Nat → Prop} {w w1 : World} {g : Nat} {room : Int} {bs : List Int} {off : Bool} {fl : Option Int} (h : DiskAt F w g room bs off fl) (hb : Below w.heap.size w w1) : DiskAt F w1 g room bs off fl :=
  h.foot (Foot.ofBelow hb (fun _ => False)) (fun _ _ h => h)
theorem DiskTo.same {F : Nat → Prop} {w w1 : World} {g : Nat} {room : Int} {bs : List Int} {off : Bool} {fl : Option Int} (h : DiskAt F w g room bs off fl) (hb : Below w.heap.size w w1) : DiskTo F w w1 g room bs off fl :=
  ⟨Foot.ofBelow hb F, F, fun k hk => .inl hk, h.later hb⟩
theorem trim_neg (g : Nat) (room : Int) (A : Option Addr) (m c : Nat) (n : Int) (w : World) (h0 : w.cell? ⟨g, 0, none⟩ = some (.int .i64 room)) (h1 : w.cell? ⟨g, 1, none⟩ = some (.slice A m c)) (h2 : w.cell? ⟨g, 2, none⟩ = some (.bool false)) (hr : (room == 0) = false) (hn : n < 0) :
    Calls Tryz.prog 28 #[.pointer (some ⟨g, 0, none⟩), .int .i64 n] w fun e w' => e = .returned (.int .i64 1) ∧ w = w' := by
  have g1 : decide (n < 0) = true := decide_eq_true hn
  go_enter Tryz.func28, Tryz.ntmps28
  go_wp2_with (go_at_call 140; refine (ready_any g room _ _ h0 h2 hr).mono ?_; rintro e w' ⟨rfl, rfl⟩)
  go_wp2
  go_ret
  exact ⟨rfl, rfl⟩
theorem Trim_neg {F : Nat → Prop} {w : World} {g : Nat} {room : Int} {bs : List Int} {fl : Option Int} {n : Int} (h : DiskAt F w g room bs false fl) (hr1 : 1 ≤ room) (hn : n < 0) :
    Calls Tryz.prog 28 #[.pointer (some ⟨g, 0, none⟩), .int .i64 n] w fun e w' => e = .returned (.int .i64 1) ∧ w = w' := by
  obtain ⟨hg, hF, v, fv, hb, hown, hv, hfl⟩ := h
  obtain ⟨D, d, rfl, hnd, HD⟩ := own_reads hown
  exact trim_neg g room D bs.length d n w (cellOf hb 0) (cellOf hb 1) (cellOf hb 2) (by simp; omega) hn
def DAt (F : Nat → Prop) (w : World) (g : Nat) (room : Int) (s : DSt) : Prop := DiskAt F w g room s.bs s.off s.fl
def DTo (F : Nat → Prop) (w w' : World) (g : Nat) (room : Int) (s : DSt) : Prop := DiskTo F w w' g room s.bs s.off s.fl
section
variable {F : Nat → Prop} {w : World} {g : Nat} {room : Int} {s : DSt} {xs ys : List Int} {A : Option Addr} {m c : Nat}
theorem D_append (h : DAt F w g room s) (hi : Inv room s) (HR : Reads w .u8 A m ys) (hmc : m ≤ c) :
    Calls Tryz.prog 34 #[.pointer (some ⟨g, 0, none⟩), .slice A m c] w fun e w' => e = .returned (.int .i64 (apF room s ys).1) ∧ DTo F w w' g room (apF room s ys).2 := by
  obtain ⟨bs, off, fl⟩ := s
  have hm : ys.length = m := HR.1
  have hl := hi.hl
  have h1 := hi.h1
  have h2 := hi.h2
  simp only at hl
  unfold apF
  cases off with
  | true => exact (Append_off h h1).mono fun e w' ⟨he, hw⟩ => ⟨he, DiskTo.same h (hw ▸ Below.refl _ _)⟩
  | false =>
    simp only [Bool.false_eq_true, if_false]
    rw [hm]
    by_cases hr : room - (bs.length : Int) < (m : Int)
    · rw [if_pos hr]
      exact (Append_full h h1 h2 hl HR.2.1 hr).mono fun e w' ⟨he, q, hw⟩ => ⟨he, DiskTo.same h (hw ▸ below_drewN (Below.refl _ _) q)⟩
    · rw [if_neg hr]
      cases fl with
      | some n => exact Append_fail h HR hmc h1 h2 (by omega)
      | none => exact Append_ok h HR h1 h2 (by omega)
theorem fail_off (g : Nat) (room : Int) (n : Int) (w : World) (h0 : w.cell? ⟨g, 0, none⟩ = some (.int .i64 room)) (h2 : w.cell? ⟨g, 2, none⟩ = some (.bool true)) (hr : (room == 0) = false) :
    Calls Tryz.prog 30 #[.pointer (some ⟨g, 0, none⟩), .int .i64 n] w fun e w' => e = .returned (.int .i64 13) ∧ Below w.heap.size w w' := by
  have hb : Below w.heap.size w (w.alloc (.cells #[.int .i64 n] 3)) := (Below.refl _ _).alloc (Nat.le_refl _) _
  have HA := aside' (ready_any g room _ _ ((hb.cell (p := ⟨g, 0, none⟩) (World.block_lt_of_cell? w _ h0)).trans h0) ((hb.cell (p := ⟨g, 2, none⟩) (World.block_lt_of_cell? w _ h2)).trans h2) hr)
  go_enter Tryz.func30, Tryz.ntmps30
  go_wp2_with fail
  refine Calls.mono HA.out ?_
  rintro e w' ⟨rfl, rfl⟩
  go_wp2
  go_ret
  exact ⟨rfl, hb⟩
theorem fail_neg (g : Nat) (room : Int) (n : Int) (w : World) (h0 : w.cell? ⟨g, 0, none⟩ = some (.int .i64 room)) (h2 : w.cell? ⟨g, 2, none⟩ = some (.bool false)) (hr : (room == 0) = false) (hn : n < 0) :
    Calls Tryz.prog 30 #[.pointer (some ⟨g, 0, none⟩), .int .i64 n] w fun e w' => e = .returned (.int .i64 1) ∧ Below w.heap.size w w' := by
  have hb : Below w.heap.size w (w.alloc (.cells #[.int .i64 n] 3)) := (Below.refl _ _).alloc (Nat.le_refl _) _
  have HA := aside' (ready_any g room _ _ ((hb.cell (p := ⟨g, 0, none⟩) (World.block_lt_of_cell? w _ h0)).trans h0) ((hb.cell (p := ⟨g, 2, none⟩) (World.block_lt_of_cell? w _ h2)).trans h2) hr)
  have g1 : decide (n < 0) = true := decide_eq_true hn
  go_enter Tryz.func30, Tryz.ntmps30
  go_wp2_with fail
  refine Calls.mono HA.out ?_
  rintro e w' ⟨rfl, rfl⟩
  go_wp2
  go_ret
  exact ⟨rfl, hb⟩
theorem D_fail (n : Int) (h : DAt F w g room s) (hi : Inv room s) :
    Calls Tryz.prog 30 #[.pointer (some ⟨g, 0, none⟩), .int .i64 n] w fun e w' => e = .returned (.int .i64 (failF s n).1) ∧ DTo F w w' g room (failF s n).2 := by
  obtain ⟨bs, off, fl⟩ := s
  have h1 := hi.h1
  have h' := h
  obtain ⟨hg, hF, v, fv, hb, hown, hv, hfl⟩ := h'
  unfold failF
  cases off with
  | true => exact (fail_off g room n w (cellOf hb 0) (cellOf hb 2) (by simp; omega)).mono fun e w' ⟨he, hw⟩ => ⟨he, DiskTo.same h hw⟩
  | false =>
    simp only [Bool.false_eq_true, if_false]
    by_cases hn : n < 0
    · rw [if_pos hn]
      exact (fail_neg g room n w (cellOf hb 0) (cellOf hb 2) (by simp; omega) hn).mono fun e w' ⟨he, hw⟩ => ⟨he, DiskTo.same h hw⟩
    · rw [if_neg hn]
      exact Fail_ok h h1 (by omega)
theorem D_up (h : DAt F w g room s) (hi : Inv room s) :
    Calls Tryz.prog 32 #[.pointer (some ⟨g, 0, none⟩)] w fun e w' => e = .returned (.int .i64 0) ∧ DTo F w w' g room (upF s) := Up_ok h hi.h1
theorem D_down (h : DAt F w g room s) :
    Calls Tryz.prog 36 #[.pointer (some ⟨g, 0, none⟩)] w fun e w' => e = .returned (.bool s.off) ∧ w = w' := Down_ok h
theorem D_bytes (h : DAt F w g room s) (hi : Inv room s) :
    Calls Tryz.prog 38 #[.pointer (some ⟨g, 0, none⟩)] w fun e w' => ∃ v, e = .returned v ∧ w'.ownsRow w.heap.size 5 1 v s.bs.length (nums .u8 s.bs) ∧ Below w.heap.size w w' := Bytes_ok h (by have := hi.hl; have := hi.h2; omega)
theorem D_trim (n : Int) (h : DAt F w g room s) (hi : Inv room s) :
    Calls Tryz.prog 28 #[.pointer (some ⟨g, 0, none⟩), .int .i64 n] w fun e w' => e = .returned (.int .i64 (trimF s n).1) ∧ DTo F w w' g room (trimF s n).2 := by
  obtain ⟨bs, off, fl⟩ := s
  unfold trimF
  cases off with
  | true => exact (Trim_off h hi.h1).mono fun e w' ⟨he, hw⟩ => ⟨he, DiskTo.same h (hw ▸ Below.refl _ _)⟩
  | false =>
    simp only [Bool.false_eq_true, if_false]
    by_cases hn : n < 0
    · rw [if_pos (.inl hn)]
      exact (Trim_neg h hi.h1 hn).mono fun e w' ⟨he, hw⟩ => ⟨he, DiskTo.same h (hw ▸ Below.refl _ _)⟩
    · by_cases hm : (bs.length : Int) < n
      · rw [if_pos (.inr hm)]
        exact (Trim_no h hi.h1 (by omega) hm).mono fun e w' ⟨he, hw⟩ => ⟨he, DiskTo.same h (hw ▸ Below.refl _ _)⟩
      · rw [if_neg (by omega)]
        obtain ⟨k, rfl⟩ := Int.eq_ofNat_of_zero_le (show 0 ≤ n by omega)
        exact Trim_yes h hi.h1 (by omega)
end
end Go.Proofs.YtmoakgkoahjijaaGreatDoor
