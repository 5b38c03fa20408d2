/-
  Slices of slices of bytes that are read; SameRecords and great.
-/
import Derived.Test.YtdgilloblfbklaaGreatDoorRead
import Derived.Test.YtdgilloblfbklaaGreatDoorSame
import Derived.Test.YtdgilloblfbklaaGreatDoorCame
import Derived.Test.YtdgilloblfbklaaGreatDoorClassRegion
set_option linter.unusedVariables false
set_option linter.unusedSimpArgs false
namespace Go.Proofs.YtdgilloblfbklaaGreatDoor
open Go.RowKit SumsMath

/-- A slice of slices of bytes that is read. -/
def ReadsRows (w : World) (A : Option Addr) (n : Nat) (rows : List (List Int)) : Prop :=
  rows.length = n ∧ n ≤ 9223372036854775807 ∧ (0 < n → ∃ b off, A = some ⟨b, off, none⟩ ∧ b < w.heap.size ∧ ∀ j, j < n → ∃ B d, w.cell? ⟨b, off + j, none⟩ = some (.slice B (rows.getD j []).length d) ∧ (rows.getD j []).length ≤ d ∧ (rows.getD j []).length ≤ 140737488351232 ∧ Reads w .u8 B (rows.getD j []).length (rows.getD j []))
theorem ReadsRows.below {w w' : World} {A : Option Addr} {n : Nat} {rows : List (List Int)} (h : ReadsRows w A n rows) (hb : Below w.heap.size w w') : ReadsRows w' A n rows := by
  refine ⟨h.1, h.2.1, fun hn => ?_⟩
  obtain ⟨b, off, h1, h2, h3⟩ := h.2.2 hn
  refine ⟨b, off, h1, Nat.lt_of_lt_of_le h2 hb.size, fun j hj => ?_⟩
  obtain ⟨B, d, h4, h5, h6, h7⟩ := h3 j hj
  exact ⟨B, d, (hb.cell (p := ⟨b, off + j, none⟩) h2).trans h4, h5, h6, h7.below hb⟩
theorem ReadsRows.take {w : World} {A : Option Addr} {n : Nat} {rows : List (List Int)} (h : ReadsRows w A n rows) (k : Nat) (hk : k ≤ n) : ReadsRows w A k (rows.take k) := by
  refine ⟨by rw [List.length_take, h.1]; omega, by have := h.2.1; omega, fun hn => ?_⟩
  obtain ⟨b, off, h1, h2, h3⟩ := h.2.2 (by omega)
  refine ⟨b, off, h1, h2, fun j hj => ?_⟩
  have e : (rows.take k).getD j [] = rows.getD j [] := by simp [List.getD_eq_getElem?_getD, List.getElem?_take, hj]
  rw [e]
  exact h3 j (by omega)
theorem RowsAt.reads {W : World} {base : Nat} {out : Value} {rows : List (List Int)} (h : RowsAt W base out rows) (hl : ∀ x ∈ rows, x.length ≤ 140737488351232) : ∃ A c, out = .slice A rows.length c ∧ rows.length ≤ c ∧ ReadsRows W A rows.length rows := by
  obtain ⟨vs, h1, h2, h3⟩ := h
  rcases h2.2 with ⟨h4, h5⟩ | ⟨g, cap, cur, h4, h5, h6, h7, h8, _⟩
  · exact ⟨none, 0, by rw [h4, h5], by omega, rfl, by omega, fun hn => by omega⟩
  · refine ⟨some ⟨g, 0, none⟩, cap, h4, h7, rfl, by simp only [maxLen] at h8; omega, fun hn => ⟨g, 0, rfl, (Array.getElem?_eq_some_iff.1 h6).1, fun j hj => ?_⟩⟩
    obtain ⟨gj, cj, e1, e2, e3, e4⟩ := (h3 j hj).ex
    rw [h4] at h2
    have hc := h2.cells (g := g) rfl j _ e1
    rw [add_plain] at hc
    obtain ⟨A', c', hv, hc', hr⟩ := own_reads e2
    injection hv with hv1 hv2 hv3
    subst hv1
    refine ⟨_, cj, by rw [Nat.zero_add]; exact hc, by omega, ?_, hr⟩
    rw [List.getD_eq_getElem?_getD, List.getElem?_eq_getElem hj]
    exact hl _ (List.getElem_mem hj)

set_option maxRecDepth 100000 in
set_option maxHeartbeats 1600000 in
theorem same_records (A B : Option Addr) (n c d : Nat) (rows : List (List Int)) (w : World) (HA : ReadsRows w A n rows) (HB : ReadsRows w B n rows) :
    Calls Tryz.prog 7 #[.slice A n c, .slice B n d] w fun e w' => e = .returned (.bool true) ∧ ∃ q, w' = w.drewN q := by
  have hn := HA.2.1
  have HA' := aside' HA
  have HB' := aside' HB
  clear HA HB
  go_enter Tryz.func7, Tryz.ntmps7
  go_wp2
  go_loopw [5] (fun i wr => ∃ k : Nat, k ≤ n ∧ i = .int .i64 k ∧ ∃ q, wr = w.drewN q) (fun i _ => n - (intOf i).toNat)
  case atStart => exact ⟨0, Nat.zero_le _, rfl, 0, rfl⟩
  case round =>
    obtain ⟨k, hk, rfl, q, rfl⟩ := hrel
    by_cases hlt : k < n
    · obtain ⟨ab, ao, rfl, ha2, ha3⟩ := HA'.out.2.2 (by omega)
      obtain ⟨bb, bo, rfl, hb2, hb3⟩ := HB'.out.2.2 (by omega)
      obtain ⟨A1, d1, c1, _, _, r1⟩ := ha3 k hlt
      obtain ⟨B1, d2, c2, _, _, r2⟩ := hb3 k hlt
      have HS := aside' (show ∀ V, (∃ q, V = w.drewN q) → Calls Tryz.prog 15 #[.slice A1 (rows.getD k []).length d1, .slice B1 (rows.getD k []).length d2] V (fun e w' => e = .returned (.bool true) ∧ ∃ q, w' = V.drewN q) from fun V h => (same_bytes A1 B1 _ d1 _ d2 (rows.getD k []) (rows.getD k []) V (by obtain ⟨q, rfl⟩ := h; exact r1) (by obtain ⟨q, rfl⟩ := h; exact r2)).mono fun e w' ⟨he, hq⟩ => ⟨by rw [he, decide_eq_true rfl], hq⟩)
      generalize (rows.getD k []).length = ln at *
      have i0 : (0 : Int) ≤ (k : Int) := by omega
      have i1 : (k : Int) < (n : Int) := by omega
      obtain ⟨C, HF⟩ : ∃ C : World → Prop, Aside (∀ W, C W ↔ (W.cell? ⟨ab, ao + k, none⟩ = some (.slice A1 ln d1) ∧ W.cell? ⟨bb, bo + k, none⟩ = some (.slice B1 ln d2) ∧ ∃ q, W = w.drewN q)) := ⟨_, fun W => Iff.rfl⟩
      have HCQ := aside' (show ∀ q, C (w.drewN q) from fun q => (HF.out _).2 ⟨c1, c2, q, rfl⟩)
      clear c1 c2 ha3 hb3 r1 r2
      go_wp2_with fail
      refine region_class C (by kernel_rfl) (by kernel_rfl) (HCQ.out (q + 1)) ?_
      repeat
        (first
          | go_big_quiet_skip
          | (go_big_quiet_want; first
              | (go_big_quiet_op; go_big_quiet_on)
              | (unfold Oper.quiet; apply Exists.intro; refine ⟨fun W hW => ?_, ?_⟩
                 · obtain ⟨k0, k1, k2⟩ := (HF.out W).1 hW
                   go_simp
                   first
                     | with_reducible rfl
                     | (go_at_call 15; refine Calls.mono (HS.out _ k2) ?_; rintro e w5 ⟨he, q5, hq5⟩; exact ⟨he, by obtain ⟨q6, rfl⟩ := k2; rw [hq5, World.drewN_drewN]; exact HCQ.out _⟩)
                 go_simp
                 go_big_quiet_on)))
      refine wpQuiet_nil ?_
      intro W' hW'
      obtain ⟨_, _, q5, hq5⟩ := (HF.out W').1 hW'
      clear hW' HF HCQ
      go_wp2
      go_roundw
      case rel => exact ⟨k + 1, by omega, by go_num, q5, by first | exact hq5 | rfl⟩
      case measure => (simp [intOf]; omega)
    · obtain rfl : k = n := by omega
      go_wp2
      go_ret
      exact ⟨rfl, q, rfl⟩

end Go.Proofs.YtdgilloblfbklaaGreatDoor
