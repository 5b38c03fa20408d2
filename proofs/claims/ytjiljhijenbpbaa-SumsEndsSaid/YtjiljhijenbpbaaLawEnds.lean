/-
  The walk of the law SumsEnds.
-/
import Derived.Test.YtjiljhijenbpbaaAlive
import Derived.Test.YtjiljhijenbpbaaMathEnds
set_option linter.unusedVariables false
set_option linter.unusedSimpArgs false
namespace Go.Proofs.Ytjiljhijenbpbaa
open Go.RowKit SumsMath

theorem reads_two (w : World) (e : TypeId) (x y : Int) : Reads (w.alloc (.cells #[.int .u8 x, .int .u8 y] e)) .u8 (some ⟨w.heap.size, 0, none⟩) 2 [x, y] := reads_lit w .u8 e [x, y] _ (0, 0) rfl (by simp)
theorem bytes_app {zs : List Int} (hx : Bytes zs) (x y : Int) (h1 : 0 ≤ x ∧ x ≤ 255) (h2 : 0 ≤ y ∧ y ≤ 255) : Bytes (zs ++ [x, y]) := by
  intro j
  rw [List.getD_eq_getElem?_getD]
  by_cases hj : j < zs.length
  · rw [List.getElem?_append_left hj, ← List.getD_eq_getElem?_getD]; exact hx j
  · rw [List.getElem?_append_right (by omega)]
    rcases Nat.lt_or_ge (j - zs.length) 2 with h | h
    · obtain h | h : j - zs.length = 0 ∨ j - zs.length = 1 := by omega
      · rw [h]; exact h1
      · rw [h]; exact h2
    · rw [List.getElem?_eq_none (by simpa using h)]; exact ⟨by decide, by decide⟩

set_option maxHeartbeats 3200000 in
theorem ends_law (A : Option Addr) (n cap : Nat) (zs : List Int) (w : World) (hx : Bytes zs) (hR : Reads w .u8 A n zs) :
    Calls Try.prog 7 #[.slice A n cap] w fun e w' => e = .returned (.bool true) ∧ Below w.heap.size w w' := by
  have hlen := hR.2.1
  have HR : Aside (Reads w .u8 A n zs ∧ Bytes zs) := ⟨hR, hx⟩
  clear hR hx
  by_cases hb : 60000 < n
  · have hd : decide (60000 < (n : Int)) = true := decide_eq_true (by omega)
    go_enter Try.func7, Try.ntmps7
    go_wp2_with fail
    refine (alive_any _).mono ?_
    rintro e w1 ⟨rfl, hb1⟩
    go_wp2_with fail
    refine (alive_any _).mono ?_
    rintro e w2 ⟨rfl, hb2⟩
    go_wp2
    go_ret
    exact ⟨rfl, hb1.trans (hb2.mono hb1.size)⟩
  · have hd2 : decide (60000 < (n : Int)) = false := decide_eq_false (by omega)
    have hs1b := sumF_bd16 1 (by omega) zs HR.out.2
    have HE1 : Aside (sumF 1 (zs ++ [sumF 1 zs % 256, sumF 1 zs / 256]) = 0) := ends1 zs HR.out.2
    have HXE1 : Aside (Bytes (zs ++ [sumF 1 zs % 256, sumF 1 zs / 256])) := bytes_app HR.out.2 _ _ (by omega) (by omega)
    have HS1 : Aside (∀ w1, Below w.heap.size w w1 → Calls Try.prog 24 #[.int .i64 1, .slice A n cap] w1 fun e W' => e = .returned (.int .u64 (sumF 1 zs)) ∧ Below w1.heap.size w1 W') := fun w1 h => ofSum_any 1 A n cap zs (by omega) w1 HR.out.2 (HR.out.1.below h)
    generalize sumF 1 zs = x at *
    have hlo : 0 ≤ x % 256 ∧ x % 256 ≤ 255 := by omega
    have hhi : 0 ≤ x / 256 ∧ x / 256 ≤ 255 := by omega
    have HNL : Aside ((zs ++ [x % 256, x / 256]).length = n + 2 ∧ zs.length = n) := ⟨by simp [HR.out.1.1], HR.out.1.1⟩
    go_enter Try.func7, Try.ntmps7
    go_wp2_with fail
    refine (alive_any _).mono ?_
    rintro e w1 ⟨rfl, hb1⟩
    go_wp2_with fail
    refine (HS1.out _ hb1).mono ?_
    rintro e w2 ⟨rfl, hb2'⟩
    have hb2 := hb1.trans (hb2'.mono hb1.size)
    clear hb1 hb2'
    have hs2 := hb2.size
    have HR2 : Aside (Reads w2 .u8 A n zs) := HR.out.1.below hb2
    have HO2 : Aside (w2.ownsRow w.heap.size 5 1 (.slice none 0 0) ([] : List Int).length (nums .u8 [])) := World.ownsRow_nil _ _ _ _
    go_wp2_with (
      at_builtin
      first
      | (refine append_row w.heap.size rfl _ _ 29 5 .u8 1 rfl Try.underlying29 infoByte (by omega) (.slice none 0 0) [] zs A n cap rfl rfl HO2.out HR2.out hs2 (by simp; omega) ?_
         intro v3 w3 hown hg hat
         rw [List.nil_append] at hown
         have hb3 : Below w.heap.size w w3 := hb2.trans (own_grown HO2.out hg hs2)
         have hs3 := hb3.size
         have HO3 : Aside ((w3.alloc (.cells #[.int .u8 (x % 256), .int .u8 (x / 256)] 5)).ownsRow w.heap.size 5 1 v3 zs.length (nums .u8 zs)) := hown.alloc _
         obtain ⟨A3, L3, c3, rfl, HL3⟩ := own_form hown
         clear hown hg hat hb2 HR2 HO2 hs2)
      | (refine append_row w.heap.size rfl _ _ 29 5 .u8 1 rfl Try.underlying29 infoByte (by omega) (.slice A3 L3 c3) zs [x % 256, x / 256] _ 2 2 rfl rfl HO3.out (reads_two _ _ _ _) (by simp; omega) (by rw [HNL.out.2]; omega) ?_
         intro v4 w4 hown hg hat
         have hb4 : Below w.heap.size w w4 := (hb3.alloc hs3 _).trans (own_grown HO3.out hg (by simp; omega))
         rw [HNL.out.1] at hown
         obtain ⟨g, c, rfl, hgb, hgs, hnc, hcm⟩ := own_some hown (by omega)
         clear hg hat))
    have hq := ofSum_any 1 (some ⟨g, 0, none⟩) (n + 2) c (zs ++ [x % 256, x / 256]) (by omega) w4 HXE1.out (own_rd hown)
    rw [HE1.out] at hq
    refine hq.mono ?_
    rintro e w5 ⟨rfl, hb5⟩
    have HO5 : Aside (w5.ownsRow w.heap.size 5 1 (.slice (some ⟨g, 0, none⟩) (n + 2) c) (n + 2) (nums .u8 (zs ++ [x % 256, x / 256]))) := own_keep hown hb5
    have hB5 : Below w.heap.size w w5 := hb4.trans (hb5.mono hb4.size)
    have HT0 : Aside ((zs ++ [x % 256, x / 256]).take n = zs) := by
      have := HNL.out.2
      show List.take n _ = _
      rw [List.take_append_of_le_length (by omega), List.take_of_length_le (by omega)]
    clear hq hown hb4 hb5 hgs hb3 HO3 HL3 hs3
    go_wp2
    by_cases hev : n % 2 = 0
    · have hev2 : ((n : Int) % 2 == 0) = true := by simp; omega
      go_loopw [4, 5] (fun v i wr => ∃ (k : Int) (xs : List Int), 3 ≤ k ∧ k ≤ 5 ∧ i = .int .i64 k ∧ Aside (wr.ownsRow w.heap.size 5 1 v (n + 2) (nums .u8 xs) ∧ xs.take n = zs) ∧ Below w.heap.size w wr) (fun _ i _ => 6 - (intOf i).toNat)
      case atStart => exact ⟨3, _, by omega, by omega, rfl, ⟨HO5.out, HT0.out⟩, hB5⟩
      case round =>
        obtain ⟨k, xs, hk3, hk5, rfl, hO, hB⟩ := hrel
        clear HO5 hB5 HT0
        by_cases hk : k ≤ 4
        · have hyb := sumF_bd16 k (by omega) zs HR.out.2
          have hend : Aside (sumF k (zs ++ [sumF k zs / 256, sumF k zs % 256]) = 0) := by
            obtain rfl | rfl : k = 3 ∨ k = 4 := by omega
            · exact ends3 zs HR.out.2 (by rw [HNL.out.2]; exact hev)
            · exact ends4 zs HR.out.2 (by rw [HNL.out.2]; exact hev)
          have HXk : Aside (Bytes (zs ++ [sumF k zs / 256, sumF k zs % 256])) := bytes_app HR.out.2 _ _ (by omega) (by omega)
          have hq := ofSum_any k A n cap zs (by omega) wr HR.out.2 (HR.out.1.below hB)
          have HLk : Aside ((zs ++ [sumF k zs / 256, sumF k zs % 256]).length = n + 2) := by show List.length _ = _; simp [HNL.out.2]
          generalize sumF k zs = y at *
          obtain ⟨g1, c1, rfl, hgb1, hgs1, hnc1, hcm1⟩ := own_some hO.out.1 (by omega)
          have hn0 : (0 : Int) ≤ (n : Int) := by omega
          have hn1 : (n : Int) ≤ (c1 : Int) := by omega
          have hye : y / 256 % 256 = y / 256 := by omega
          go_wp2_with fail
          refine hq.mono ?_
          rintro e w6 ⟨rfl, hb6⟩
          have hB6 := hB.trans (hb6.mono hB.size)
          have hs6 := hB6.size
          have HO6 : Aside (w6.ownsRow w.heap.size 5 1 (.slice (some ⟨g1, 0, none⟩) n c1) zs.length (nums .u8 zs)) := by
            have h := own_cut (own_keep hO.out.1 hb6) (show n ≤ n + 2 by omega)
            rw [hO.out.2] at h
            rw [HNL.out.2]
            exact h
          have HO6' : Aside ((w6.alloc (.cells #[.int .u8 (y / 256), .int .u8 (y % 256)] 5)).ownsRow w.heap.size 5 1 (.slice (some ⟨g1, 0, none⟩) n c1) zs.length (nums .u8 zs)) := HO6.out.alloc _
          clear hq hB hb6
          go_wp2_with (
            at_builtin
            refine append_row w.heap.size rfl _ _ 29 5 .u8 1 rfl Try.underlying29 infoByte (by omega) (.slice (some ⟨g1, 0, none⟩) n c1) zs [y / 256, y % 256] _ 2 2 rfl rfl HO6'.out (reads_two _ _ _ _) (by simp; omega) (by rw [HNL.out.2]; omega) ?_
            intro v7 w7 hown hg hat
            have hB7 : Below w.heap.size w w7 := (hB6.alloc hs6 _).trans (own_grown HO6'.out hg (by simp; omega))
            rw [HLk.out] at hown
            obtain ⟨g7, c7, rfl, hgb7, hgs7, hnc7, hcm7⟩ := own_some hown (by omega)
            clear hg hat)
          have hq2 := ofSum_any k (some ⟨g7, 0, none⟩) (n + 2) c7 (zs ++ [y / 256, y % 256]) (by omega) w7 HXk.out (own_rd hown)
          rw [hend.out] at hq2
          refine hq2.mono ?_
          rintro e w8 ⟨rfl, hb8⟩
          have HO8 : Aside (w8.ownsRow w.heap.size 5 1 (.slice (some ⟨g7, 0, none⟩) (n + 2) c7) (n + 2) (nums .u8 (zs ++ [y / 256, y % 256]))) := own_keep hown hb8
          have hB8 : Below w.heap.size w w8 := hB7.trans (hb8.mono hB7.size)
          have HT8 : Aside ((zs ++ [y / 256, y % 256]).take n = zs) := by
            have := HNL.out.2
            show List.take n _ = _
            rw [List.take_append_of_le_length (by omega), List.take_of_length_le (by omega)]
          clear hq2 hown hB7 hb8
          go_wp2
          go_roundw
          case rel => exact ⟨k + 1, _, by omega, by omega, by go_num, ⟨HO8.out, HT8.out⟩, hB8⟩
          case measure => simp [intOf]; omega
        · obtain rfl : k = 5 := by omega
          go_wp2
          go_ret
          exact ⟨rfl, hB⟩
    · have hev2 : ((n : Int) % 2 == 0) = false := by simp; omega
      go_loopw [5] (fun i wr => i = .int .i64 3 ∧ wr = w5) (fun i _ => 0)
      case atStart => exact ⟨rfl, rfl⟩
      case round =>
        obtain ⟨rfl, rfl⟩ := hrel
        go_wp2
        go_ret
        exact ⟨rfl, hB5⟩
end Go.Proofs.Ytjiljhijenbpbaa
