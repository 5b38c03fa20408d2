/-
  The walk of the law QueueNone.
-/
import Derived.Test.YtjaeogaffdbpeaaLives
import Derived.Test.YtjaeogaffdbpeaaSame
set_option linter.unusedVariables false
set_option linter.unusedSimpArgs false
namespace Go.Proofs.Ytjaeogaffdbpeaa.Own
open Go.RowKit

/-- A slice of slices of bytes that is read. -/
def ReadsRows (w : World) (A : Option Addr) (n : Nat) (xss : List (List Int)) : Prop :=
  xss.length = n ∧ n ≤ 9223372036854775807 ∧ (0 < n → ∃ b off, A = some ⟨b, off, none⟩ ∧ b < w.heap.size ∧ ∀ j, j < n → ∃ B m c, w.cell? ⟨b, off + j, none⟩ = some (.slice B m c) ∧ m ≤ 140737488351232 ∧ (B = none → c = 0) ∧ Reads w .u8 B m (xss.getD j []))
theorem ReadsRows.below {w w' : World} {A : Option Addr} {n : Nat} {xss : List (List Int)} (h : ReadsRows w A n xss) (hb : Below w.heap.size w w') : ReadsRows w' A n xss := by
  refine ⟨h.1, h.2.1, fun hn => ?_⟩
  obtain ⟨b, off, h1, h2, h3⟩ := h.2.2 hn
  refine ⟨b, off, h1, Nat.lt_of_lt_of_le h2 hb.size, fun j hj => ?_⟩
  obtain ⟨B, m, c, h4, h5, h6, h7⟩ := h3 j hj
  exact ⟨B, m, c, (hb.cell (p := ⟨b, off + j, none⟩) h2).trans h4, h5, h6, h7.below hb⟩
set_option maxRecDepth 100000 in
set_option maxHeartbeats 3200000 in
theorem none_law (A : Option Addr) (n c : Nat) (k : Nat) (hk : k ≤ 255) (xss : List (List Int)) (w : World) (hR : ReadsRows w A n xss) :
    Calls Try.prog 5 #[.slice A n c, .int .u8 (k : Int)] w fun e w' => e = .returned (.bool true) ∧ Below w.heap.size w w' := by
  have hnm := hR.2.1
  have HN := aside' (show Calls Try.prog 6 #[.int .i64 0] w _ from New_ok 0 (by decide) w)
  have HQ0 := aside' (QAt.empty w 0 (by decide))
  have HB0 := aside' ((Below.refl w.heap.size w).alloc (Nat.le_refl _) (.cells (qz ((0 : Nat) : Int)) 43))
  by_cases hbig : 300 < n
  · have hd : decide (300 < (n : Int)) = true := decide_eq_true (by omega)
    clear hR
    go_enter Try.func5, Try.ntmps5
    go_wp2_with fail
    refine Calls.mono HN.out ?_
    rintro e w1 ⟨rfl, hw1⟩
    rw [← hw1] at HB0
    clear hw1 HN HQ0
    go_wp2_with fail
    refine Calls.mono (lives_any _) ?_
    rintro e w2 ⟨rfl, hb2⟩
    go_wp2
    go_ret
    exact ⟨rfl, HB0.out.trans (hb2.mono HB0.out.size)⟩
  · have hd : decide (300 < (n : Int)) = false := decide_eq_false (by omega)
    have HR := aside' hR
    clear hR
    go_enter Try.func5, Try.ntmps5
    go_wp2_with fail
    refine Calls.mono HN.out ?_
    rintro e w1 ⟨rfl, hw1⟩
    rw [← hw1] at HB0 HQ0
    clear hw1 HN
    go_wp2_with fail
    go_loopw [7] (fun i wr => ∃ j : Nat, j ≤ n ∧ i = .int .i64 j ∧ Aside (QAt wr w.heap.size 0 (List.replicate 64 (.slice none 0 0)) (List.replicate 64 0) 0 [] ∧ Below w.heap.size w wr)) (fun i _ => n - (intOf i).toNat)
    case atStart => exact ⟨0, Nat.zero_le _, rfl, HQ0.out, HB0.out⟩
    case round =>
      obtain ⟨j, hj, rfl, HS⟩ := hrel
      by_cases hlt : j < n
      · obtain ⟨b, off, hA, hb, hcs⟩ := (HR.out.below HS.out.2).2.2 (by omega)
        obtain ⟨B, m, d, hcell, _, _, _⟩ := hcs j hlt
        subst hA
        have hj0 : (0 : Int) ≤ (j : Int) := by omega
        have hj1 : (j : Int) < (n : Int) := by omega
        have HP := aside' (Put_full wr w.heap.size 0 _ _ _ _ HS.out.1.box (Nat.zero_le _) (j : Int) B m d)
        clear hcs
        go_wp2_with fail
        refine Calls.mono HP.out ?_
        rintro e w2 ⟨rfl, hb2⟩
        have HQ2 := aside' (HS.out.1.below hb2)
        have HB2 := aside' (HS.out.2.trans (hb2.mono HS.out.2.size))
        have HL := aside' (show Calls Try.prog 10 #[.pointer (some ⟨w.heap.size, 0, none⟩)] w2 (fun e w' => e = .returned (.int .i64 0) ∧ w' = w2) from Len_ok w2 w.heap.size 0 _ _ _ _ HQ2.out.box)
        clear hb2 hcell
        go_wp2_with fail
        refine Calls.mono HL.out ?_
        rintro e w3 ⟨rfl, hw3⟩
        have hw3 := hw3.symm
        subst hw3
        go_wp2
        go_roundw
        case rel => exact ⟨j + 1, by omega, by go_num, HQ2.out, HB2.out⟩
        case measure => (simp [intOf]; omega)
      · obtain rfl : j = n := by omega
        have HSD := aside' (Send_at wr _ _ _ _ _ _ HS.out.1 k (by omega))
        have hk1 : (k : Int) ≤ 255 := by omega
        have hk0 : (0 : Int) ≤ (k : Int) := by omega
        have hm : min k ([] : List Cp).length = 0 := by simp
        rw [hm] at HSD
        go_wp2_with fail
        refine Calls.mono HSD.out ?_
        rintro e w2 ⟨A5, rfl, _, _, hf⟩
        have HB2 := aside' (HS.out.2.trans (hf.below (B := w.heap.size) (fun i hi => by omega) HS.out.2.size))
        clear hf
        go_wp2_with fail
        refine Calls.mono (lives_any _) ?_
        rintro e w3 ⟨rfl, hb3⟩
        go_wp2
        go_ret
        exact ⟨rfl, HB2.out.trans (hb3.mono HB2.out.size)⟩
end Go.Proofs.Ytjaeogaffdbpeaa.Own
