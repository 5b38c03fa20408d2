/-
  packet.Put, where it refuses.
-/
import Derived.Test.YtipeeacplhgihaaAll
set_option linter.unusedVariables false
set_option linter.unusedSimpArgs false
namespace Go.Proofs.Ytipeeacplhgihaa
open Go.RowKit PkMath

/-- May all numbers be? -/
def allOk (xs : List Num) : Prop := ∀ j, j < xs.length → (xs.getD j zeroNum).ok
theorem len_bound (xs : List Num) (h : allOk xs) : ∀ k, k ≤ xs.length → (allBits (xs.take k)).length ≤ 128 * k := by
  intro k
  induction k with
  | zero => intro _; simp [allBits]
  | succ k ih =>
    intro hk
    rw [allBits_len_succ _ _ (by omega)]
    have := ih (by omega)
    have := (h k (by omega)).2.1
    omega

set_option maxRecDepth 100000 in
set_option maxHeartbeats 2000000 in
/-- The first one that may not be. -/
theorem Put_bad (A : Option Addr) (n c : Nat) (xs : List Num) (w : World) (hR : ReadsNums w A n xs) (hn : n ≤ 1048576) (hwf : ∀ j, j < n → (xs.getD j zeroNum).wf) (i : Nat) (hi : i < n) (hbad : ¬ (xs.getD i zeroNum).ok) (hok : ∀ j, j < i → (xs.getD j zeroNum).ok) :
    Calls Try.prog 7 #[.slice A n c] w fun e w' => e = .returned (.tuple #[.slice none 0 0, .int .i64 1]) ∧ Below w.heap.size w w' := by
  have HR : Aside (ReadsNums w A n xs) := hR
  have HW : Aside (∀ j, j < n → (xs.getD j zeroNum).wf) := hwf
  have HB : Aside (¬ (xs.getD i zeroNum).ok) := hbad
  have HO : Aside (∀ j, j < i → (xs.getD j zeroNum).ok) := hok
  clear hR hwf hbad hok
  go_enter Try.func7, Try.ntmps7
  go_wp2
  go_loopw [4, 12] (fun s i' wr => ∃ (k m : Nat), k ≤ i ∧ i' = .int .i64 k ∧ s = .int .i64 m ∧ m ≤ 128 * k ∧ Below w.heap.size w wr) (fun _ i' _ => n - (intOf i').toNat)
  case atStart => exact ⟨0, 0, Nat.zero_le _, rfl, rfl, Nat.le_refl _, Below.refl _ _⟩
  case round =>
    obtain ⟨k, m, hk, rfl, rfl, hm, hB⟩ := hrel
    obtain ⟨b, off, hA, hbs, hcells⟩ := (HR.out.below hB).2.2 (by omega)
    subst hA
    obtain ⟨q0, q1, q2⟩ := hcells k (by omega)
    rw [← Nat.add_assoc] at q1 q2
    obtain ⟨x, hx⟩ : ∃ x, x = xs.getD k zeroNum := ⟨_, rfl⟩
    rw [← hx] at q0 q1 q2
    have hwf := HW.out k (by omega)
    rw [← hx] at hwf
    have hk0 : (0 : Int) ≤ (k : Int) := by omega
    have hk1 : (k : Int) < (n : Int) := by omega
    clear hcells
    have hsz := hB.size
    by_cases hki : k = i
    · have hnok : ¬ x.ok := by rw [hx, hki]; exact HB.out
      have HC : Aside (∀ V, Calls Try.prog 16 #[x.v] V fun e w' => e = .returned (.bool false) ∧ Below V.heap.size V w') := fun V => check_bad x hwf hnok V
      clear hx hwf hnok hki
      obtain ⟨W, hi', lo⟩ := x
      unfold Num.v at HC
      simp only at q0 q1 q2 HC
      go_wp2_with fail
      refine Calls.mono (HC.out _) ?_
      rintro e w5 ⟨rfl, hb5⟩
      go_wp2
      go_ret2
      exact ⟨rfl, (hB.alloc hsz _).trans (hb5.mono (by simp; omega))⟩
    · have hok := HO.out k (by omega)
      rw [← hx] at hok
      have HC : Aside (∀ V, Calls Try.prog 16 #[x.v] V fun e w' => e = .returned (.bool true) ∧ Below V.heap.size V w') := fun V => check_good x hwf hok V
      have hW1 := hok.1
      have hW2 := hok.2.1
      obtain ⟨d, hd⟩ : ∃ d : Nat, x.W = (d : Int) := ⟨x.W.toNat, by omega⟩
      clear hx hwf hok
      obtain ⟨W, hi', lo⟩ := x
      unfold Num.v at HC
      simp only at q0 q1 q2 HC hW1 hW2 hd
      subst hd
      go_wp2_with fail
      refine Calls.mono (HC.out _) ?_
      rintro e w5 ⟨rfl, hb5⟩
      have h6 := (hb5.block wr.heap.size (by simp)).trans (heap_alloc_new wr (.cells #[.int .i64 (d : Int), .int .u64 hi', .int .u64 lo] 33))
      have p0 := cellOf h6 0
      simp only [List.getElem?_toArray, List.getElem?_cons_zero] at p0
      clear h6
      have hadd : (m : Int) + (d : Int) ≤ 9223372036854775807 := by omega
      have hadd0 : (0 : Int) ≤ (m : Int) + (d : Int) := by omega
      go_wp2
      go_roundw
      case rel => exact ⟨k + 1, m + d, by omega, by go_num, by go_num, by omega, (hB.alloc hsz _).trans (hb5.mono (by simp; omega))⟩
      case measure => simp [intOf]; omega

set_option maxRecDepth 100000 in
set_option maxHeartbeats 2000000 in
/-- Too many bits. -/
theorem Put_big (A : Option Addr) (n c : Nat) (xs : List Num) (w : World) (hR : ReadsNums w A n xs) (hn : n ≤ 1048576) (hwf : ∀ j, j < n → (xs.getD j zeroNum).wf) (hok : allOk xs) (hbig : 524288 < (allBits xs).length) :
    Calls Try.prog 7 #[.slice A n c] w fun e w' => e = .returned (.tuple #[.slice none 0 0, .int .i64 3]) ∧ Below w.heap.size w w' := by
  have HR : Aside (ReadsNums w A n xs) := hR
  have HL : Aside (xs.length = n) := hR.1
  have HW : Aside (∀ j, j < n → (xs.getD j zeroNum).wf) := hwf
  have HO : Aside (allOk xs) := hok
  have HBIG : Aside (524288 < (allBits xs).length) := hbig
  clear hR hwf hok hbig
  go_enter Try.func7, Try.ntmps7
  go_wp2
  go_loopw [4, 12] (fun s i' wr => ∃ (k m : Nat), k ≤ n ∧ i' = .int .i64 k ∧ s = .int .i64 m ∧ Aside (m = (allBits (xs.take k)).length) ∧ Below w.heap.size w wr) (fun _ i' _ => n - (intOf i').toNat)
  case atStart => exact ⟨0, 0, Nat.zero_le _, rfl, rfl, rfl, Below.refl _ _⟩
  case round =>
    obtain ⟨k, m, hk, rfl, rfl, hm, hB⟩ := hrel
    have hsz := hB.size
    have hmb : m ≤ 128 * k := by rw [hm.out]; exact len_bound xs HO.out k (by rw [HL.out]; exact hk)
    by_cases hlt : k < n
    · obtain ⟨b, off, hA, hbs, hcells⟩ := (HR.out.below hB).2.2 (by omega)
      subst hA
      obtain ⟨q0, q1, q2⟩ := hcells k (by omega)
      rw [← Nat.add_assoc] at q1 q2
      obtain ⟨x, hx⟩ : ∃ x, x = xs.getD k zeroNum := ⟨_, rfl⟩
      rw [← hx] at q0 q1 q2
      have hwf := HW.out k (by omega)
      rw [← hx] at hwf
      have hk0 : (0 : Int) ≤ (k : Int) := by omega
      have hk1 : (k : Int) < (n : Int) := by omega
      clear hcells
      have hok := HO.out k (by rw [HL.out]; exact hlt)
      rw [← hx] at hok
      have HC : Aside (∀ V, Calls Try.prog 16 #[x.v] V fun e w' => e = .returned (.bool true) ∧ Below V.heap.size V w') := fun V => check_good x hwf hok V
      have hW1 := hok.1
      have hW2 := hok.2.1
      obtain ⟨d, hd⟩ : ∃ d : Nat, x.W = (d : Int) := ⟨x.W.toNat, by omega⟩
      have HS : Aside ((allBits (xs.take (k + 1))).length = (allBits (xs.take k)).length + d) := by
        show _ = _
        rw [allBits_len_succ _ _ (by rw [HL.out]; exact hlt), ← hx, hd]
        rfl
      clear hx hwf hok
      obtain ⟨W, hi', lo⟩ := x
      unfold Num.v at HC
      simp only at q0 q1 q2 HC hW1 hW2 hd
      subst hd
      go_wp2_with fail
      refine Calls.mono (HC.out _) ?_
      rintro e w5 ⟨rfl, hb5⟩
      have h6 := (hb5.block wr.heap.size (by simp)).trans (heap_alloc_new wr (.cells #[.int .i64 (d : Int), .int .u64 hi', .int .u64 lo] 33))
      have p0 := cellOf h6 0
      simp only [List.getElem?_toArray, List.getElem?_cons_zero] at p0
      clear h6
      have hadd : (m : Int) + (d : Int) ≤ 9223372036854775807 := by omega
      have hadd0 : (0 : Int) ≤ (m : Int) + (d : Int) := by omega
      go_wp2
      go_roundw
      case rel => exact ⟨k + 1, m + d, by omega, by go_num, by go_num, by show _ = _; rw [HS.out, ← hm.out], (hB.alloc hsz _).trans (hb5.mono (by simp; omega))⟩
      case measure => simp [intOf]; omega
    · obtain rfl : k = n := by omega
      have hmm : 524288 < m := by
        rw [hm.out, show xs.take k = xs from List.take_of_length_le (by rw [HL.out]; exact Nat.le_refl _)]; exact HBIG.out
      have hd : decide (524288 < (m : Int)) = true := decide_eq_true (by omega)
      go_wp2
      go_ret2
      exact ⟨rfl, hB⟩
end Go.Proofs.Ytipeeacplhgihaa
