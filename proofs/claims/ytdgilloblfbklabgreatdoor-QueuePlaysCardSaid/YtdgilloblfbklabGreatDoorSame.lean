/-
  The contract of pointsmanlaw01.SameBytes: it answers whether two slices of bytes are the same.
-/
import Derived.Test.YtdgilloblfbklabGreatDoorProg
import Derived.Test.YtdgilloblfbklabGreatDoorLib
set_option linter.unusedVariables false
set_option linter.unusedSimpArgs false
namespace Go.Proofs.YtdgilloblfbklabGreatDoor.Own
open Go.RowKit

theorem take_eq_step {xs ys : List Int} {k : Nat} (hx : k < xs.length) (hy : k < ys.length) (h : xs.take k = ys.take k) (he : xs.getD k 0 = ys.getD k 0) : xs.take (k + 1) = ys.take (k + 1) := by
  rw [List.take_succ_eq_append_getElem hx, List.take_succ_eq_append_getElem hy, h]
  simp [List.getD_eq_getElem?_getD, List.getElem?_eq_getElem hx, List.getElem?_eq_getElem hy] at he
  rw [he]

set_option maxHeartbeats 800000 in
theorem same_bytes (A B : Option Addr) (n c m d : Nat) (xs ys : List Int) (w : World) (HA : Reads w .u8 A n xs) (HB : Reads w .u8 B m ys) :
    Calls Tryz.prog 23 #[.slice A n c, .slice B m d] w fun e w' => e = .returned (.bool (decide (xs = ys))) ∧ ∃ q, w' = w.drewN q := by
  have hn := HA.2.1
  have hm := HB.2.1
  have lx := HA.1
  have ly := HB.1
  by_cases hnm : n = m
  · subst hnm
    have L : Aside (xs.length = n ∧ ys.length = n) := ⟨lx, ly⟩
    have HA' : Aside (Reads w .u8 A n xs) := HA
    have HB' : Aside (Reads w .u8 B n ys) := HB
    clear lx ly HA HB
    go_enter Tryz.func23, Tryz.ntmps23
    go_wp2
    go_loopw [5] (fun i wr => ∃ k : Nat, k ≤ n ∧ i = .int .i64 k ∧ Aside (xs.take k = ys.take k) ∧ ∃ q, wr = w.drewN q) (fun i _ => n - (intOf i).toNat)
    case atStart => exact ⟨0, Nat.zero_le _, rfl, by simp [Aside], 0, rfl⟩
    case round =>
      obtain ⟨k, hk, rfl, ht, q, rfl⟩ := hrel
      by_cases hlt : k < n
      · obtain ⟨a, rfl, hca⟩ := HA'.out.at_ (k : Int) (by omega) (by omega)
        obtain ⟨b, rfl, hcb⟩ := HB'.out.at_ (k : Int) (by omega) (by omega)
        simp only [Int.toNat_natCast, rd] at hca hcb
        obtain ⟨x, hx⟩ : ∃ x, x = xs.getD k 0 := ⟨_, rfl⟩
        obtain ⟨y, hy⟩ : ∃ y, y = ys.getD k 0 := ⟨_, rfl⟩
        rw [← hx] at hca
        rw [← hy] at hcb
        have HX : Aside (x = xs.getD k 0 ∧ y = ys.getD k 0) := ⟨hx, hy⟩
        clear hx hy
        have hk0 : (0 : Int) ≤ (k : Int) := by omega
        have hk1 : (k : Int) < (n : Int) := by omega
        by_cases hxy : x = y
        · have hb : (x != y) = false := by simp [hxy]
          have HE : Aside (x = y) := hxy
          clear hxy
          go_wp2_with fail
          go_quiet (fail)
          go_wp2
          go_roundw
          case rel => exact ⟨k + 1, by omega, by go_num, take_eq_step (by rw [L.out.1]; exact hlt) (by rw [L.out.2]; exact hlt) ht.out (by rw [← HX.out.1, ← HX.out.2]; exact HE.out), _, rfl⟩
          case measure => simp [intOf]; omega
        · have hb : (x != y) = true := by simp [hxy]
          have HE : Aside (¬ x = y) := hxy
          clear hxy
          go_wp2_with fail
          go_quiet (fail)
          go_wp2
          go_ret
          refine ⟨?_, by first | exact ⟨_, rfl⟩ | exact ⟨_, World.drewN_drewN ..⟩⟩
          have hne : decide (xs = ys) = false := decide_eq_false (fun e => HE.out (by rw [HX.out.1, HX.out.2, e]))
          rw [hne]
          rfl
      · obtain rfl : k = n := by omega
        go_wp2
        go_ret
        refine ⟨?_, _, rfl⟩
        have e1 := ht.out
        rw [List.take_of_length_le (by rw [L.out.1]; exact Nat.le_refl _), List.take_of_length_le (by rw [L.out.2]; exact Nat.le_refl _)] at e1
        rw [decide_eq_true e1]
        rfl
  · have hb : ((n : Int) != (m : Int)) = true := by simp; omega
    have hne : decide (xs = ys) = false := decide_eq_false (fun e => hnm (by rw [← lx, ← ly, e]))
    rw [hne]
    clear hne lx ly HA HB
    go_enter Tryz.func23, Tryz.ntmps23
    go_wp2
    go_ret
    exact ⟨rfl, 0, rfl⟩
end Go.Proofs.YtdgilloblfbklabGreatDoor.Own
