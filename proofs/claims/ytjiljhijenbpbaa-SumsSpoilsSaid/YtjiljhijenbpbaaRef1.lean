/-
  The contracts of the document's answer: Width, Name, Find, fold, Turn.
-/
import Derived.Test.YtjiljhijenbpbaaNames
set_option linter.unusedVariables false
set_option linter.unusedSimpArgs false
namespace Go.Proofs.Ytjiljhijenbpbaa
open Go.RowKit SumsMath

theorem refWidth_any (n : Int) (w : World) : Calls Try.prog 11 #[.int .i64 n] w fun e w' => e = .returned (.int .i64 (widthF n)) ∧ w = w' := by
  by_cases h1 : n = 1
  · subst h1
    go_enter Try.func11, Try.ntmps11
    go_wp2
    go_ret
    exact ⟨rfl, rfl⟩
  by_cases h3 : n = 3
  · subst h3
    go_enter Try.func11, Try.ntmps11
    go_wp2
    go_ret
    exact ⟨rfl, rfl⟩
  by_cases h4 : n = 4
  · subst h4
    go_enter Try.func11, Try.ntmps11
    go_wp2
    go_ret
    exact ⟨rfl, rfl⟩
  by_cases h2 : n = 2
  · subst h2
    go_enter Try.func11, Try.ntmps11
    go_wp2
    go_ret
    exact ⟨rfl, rfl⟩
  · have hw : widthF n = 0 := by unfold widthF; rw [if_neg h1, if_neg h2, if_neg h3, if_neg h4]
    rw [hw]
    have e1 : decide (n = 1) = false := by simp [h1]
    have e2 : decide (n = 2) = false := by simp [h2]
    have e3 : decide (n = 3) = false := by simp [h3]
    have e4 : decide (n = 4) = false := by simp [h4]
    go_enter Try.func11, Try.ntmps11
    go_wp2
    go_ret
    exact ⟨rfl, rfl⟩

def namesL : Array Value := #[.string ⟨#[]⟩, .string ⟨#[99, 114, 99, 49, 54]⟩, .string ⟨#[99, 114, 99, 51, 50]⟩, .string ⟨#[99, 115, 117, 109, 49, 54]⟩, .string ⟨#[120, 111, 114, 49, 54]⟩]
theorem refNames_any (w : World) : Calls Try.prog 26 #[] w fun e w' => e = .returned (.slice (some ⟨w.heap.size, 0, none⟩) 5 5) ∧ w' = w.alloc (.cells namesL 9) := by
  go_enter Try.func26, Try.ntmps26
  go_wp2
  go_ret
  exact ⟨rfl, rfl⟩
theorem names_at (w : World) (k : Nat) (hk : k < 5) : (w.alloc (.cells namesL 9)).cell? ⟨w.heap.size, k, none⟩ = some (.string (nameF k)) := by
  rw [cellOf (heap_alloc_new w _) k]
  obtain rfl | rfl | rfl | rfl | rfl : k = 0 ∨ k = 1 ∨ k = 2 ∨ k = 3 ∨ k = 4 := by omega
  all_goals rfl

theorem refName_any (n : Int) (w : World) : Calls Try.prog 13 #[.int .i64 n] w fun e w' => e = .returned (.string (nameF n)) ∧ Below w.heap.size w w' := by
  by_cases h1 : n < 1
  · have hw : nameF n = ⟨#[]⟩ := by unfold nameF; rw [if_neg (by omega), if_neg (by omega), if_neg (by omega), if_neg (by omega)]
    rw [hw]
    go_enter Try.func13, Try.ntmps13
    go_wp2
    go_ret
    exact ⟨rfl, Below.refl _ _⟩
  by_cases h4 : 4 < n
  · have hw : nameF n = ⟨#[]⟩ := by unfold nameF; rw [if_neg (by omega), if_neg (by omega), if_neg (by omega), if_neg (by omega)]
    rw [hw]
    have h1' : decide (n < 1) = false := decide_eq_false h1
    go_enter Try.func13, Try.ntmps13
    go_wp2
    go_ret
    exact ⟨rfl, Below.refl _ _⟩
  · obtain ⟨k, rfl⟩ := Int.eq_ofNat_of_zero_le (show 0 ≤ n by omega)
    have hc := names_at w k (by omega)
    have h5 : (k : Int) < 5 := by omega
    have h0 : (0 : Int) ≤ k := by omega
    have hb : Below w.heap.size w (w.alloc (.cells namesL 9)) := (Below.refl _ _).alloc (Nat.le_refl _) _
    have h1' : decide ((k : Int) < 1) = false := decide_eq_false h1
    have h4' : decide (4 < (k : Int)) = false := decide_eq_false h4
    generalize nameF k = s at *
    go_enter Try.func13, Try.ntmps13
    go_wp2_with fail
    refine (refNames_any _).mono ?_
    rintro e w' ⟨rfl, rfl⟩
    go_wp2
    go_ret
    exact ⟨rfl, hb⟩
theorem refFind_any (s : ByteArray) (w : World) : Calls Try.prog 15 #[.string s] w fun e w' => e = .returned (.int .i64 (findF s)) ∧ Below w.heap.size w w' := by
  have HC : Aside (∀ k : Nat, k < 5 → (w.alloc (.cells namesL 9)).cell? ⟨w.heap.size, k, none⟩ = some (.string (nameF k))) := names_at w
  have hb : Below w.heap.size w (w.alloc (.cells namesL 9)) := (Below.refl _ _).alloc (Nat.le_refl _) _
  go_enter Try.func15, Try.ntmps15
  go_wp2_with fail
  refine (refNames_any _).mono ?_
  rintro e w' ⟨rfl, rfl⟩
  generalize w.alloc (.cells namesL 9) = V at *
  go_wp2
  go_loop [4] (fun i => ∃ k : Nat, 1 ≤ k ∧ k ≤ 5 ∧ i = .int .i64 k ∧ Aside (∀ j : Int, 1 ≤ j → j < k → ((nameF j).toList == s.toList) = false)) (fun i => 6 - (intOf i).toNat)
  case atStart => exact ⟨1, by omega, by omega, rfl, fun j h1 h2 => by omega⟩
  case round =>
    obtain ⟨k, hk1, hk5, rfl, hp⟩ := hrel
    have h0 : (0 : Int) ≤ k := by omega
    by_cases h4 : (k : Int) < 5
    · have hc := HC.out k (by omega)
      cases hq : ((nameF k).toList == s.toList) with
      | true =>
        have hF : Aside (findF s = k) := findF_at s k (by omega) (by omega) hq hp.out
        go_wp2
        go_ret
        exact ⟨by rw [hF.out]; rfl, hb⟩
      | false =>
        go_wp2
        go_round
        case rel =>
          exact ⟨k + 1, by omega, by omega, by go_num, fun j h1 h2 => by
            by_cases he : j = k
            · subst he; exact hq
            · exact hp.out j h1 (by omega)⟩
        case measure => simp [intOf]; omega
    · obtain rfl : k = 5 := by omega
      have hF : Aside (findF s = 0) := findF_none s hp.out
      go_wp2
      go_ret
      exact ⟨by rw [hF.out]; rfl, hb⟩

theorem refFold_any (n : Int) (h0 : 0 ≤ n) (h1 : n ≤ 4294967295) (w : World) : Calls Try.prog 28 #[.int .u32 n] w fun e w' => e = .returned (.int .u32 (foldF n)) ∧ w = w' := by
  go_enter Try.func28, Try.ntmps28
  go_wp2
  go_loop [0] (fun v => ∃ m : Int, v = .int .u32 m ∧ 0 ≤ m ∧ m ≤ 4294967295 ∧ Aside (foldF m = foldF n)) (fun v => (intOf v).toNat)
  case atStart => exact ⟨n, rfl, h0, h1, rfl⟩
  case round =>
    obtain ⟨m, rfl, hm0, hm1, hf⟩ := hrel
    by_cases hb : 65535 < m
    · have ha := and_65535 m hm0 hm1
      have hs := foldF_step m hb hm1
      have HS : Aside (foldF (m % 65536 + m / 65536) = foldF m) := hs
      clear hs
      go_wp2
      go_round
      case rel => exact ⟨m % 65536 + m / 65536, by go_num, by omega, by omega, HS.out.trans hf.out⟩
      case measure => simp [intOf]; omega
    · have hsm : Aside (foldF m = m) := foldF_small m hm0 (by omega)
      go_wp2
      go_ret
      exact ⟨by rw [← hf.out, hsm.out]; rfl, rfl⟩
theorem refTurn_any (a b c : Int) (ha : 0 ≤ a ∧ a ≤ 65535) (hb : 0 ≤ b ∧ b ≤ 65535) (hc : 0 ≤ c ∧ c ≤ 65535) (w : World) : Calls Try.prog 17 #[.int .u16 a, .int .u16 b, .int .u16 c] w fun e w' => e = .returned (.int .u16 (turnF a b c)) ∧ w = w' := by
  go_enter Try.func17, Try.ntmps17
  go_wp2_with fail
  refine (refFold_any _ (by omega) (by omega) _).mono ?_
  rintro e w' ⟨rfl, rfl⟩
  have hfb := foldF_bd (65535 - a + (65535 - b) + c)
  have ht : Aside (turnF a b c = 65535 - foldF (65535 - a + (65535 - b) + c)) := rfl
  generalize foldF (65535 - a + (65535 - b) + c) = z at *
  go_wp2
  go_ret
  exact ⟨by rw [ht.out]; go_num, rfl⟩
end Go.Proofs.Ytjiljhijenbpbaa
