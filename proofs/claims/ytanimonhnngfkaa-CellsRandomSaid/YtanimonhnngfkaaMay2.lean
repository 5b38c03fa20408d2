/-
  slices.ContainsFunc over may's two closures, where nothing is bad; may, of an array that may be.
-/
import Derived.Test.YtanimonhnngfkaaMay1
set_option linter.unusedVariables false
set_option linter.unusedSimpArgs false
namespace Go.Proofs.Ytanimonhnngfkaa
open Go.RowKit

/-- The box of may's receiver, and the array. -/
structure MA (w : World) (bx p : Nat) (vals : Array Value) (W : World) : Prop where
  hb : W.heap[bx]? = some (.cells #[.pointer (some ⟨p, 0, none⟩)] 65 (0, 0))
  hp : W.heap[p]? = some (.cells vals 63 (0, 0))
  below : Below w.heap.size w W
theorem MA.next {w : World} {bx p : Nat} {vals : Array Value} {W W' : World} (h : MA w bx p vals W) (hb : Below W.heap.size W W') : MA w bx p vals W' :=
  ⟨(hb.block _ (Array.getElem?_eq_some_iff.1 h.hb).1).trans h.hb, (hb.block _ (Array.getElem?_eq_some_iff.1 h.hp).1).trans h.hp, h.below.trans (hb.mono h.below.size)⟩

/-- An array that may be. -/
structure Arr.ok (a : Arr) : Prop where
  kd : a.kd = 3 ∨ a.kd = 4 ∨ a.kd = 5
  scal : (a.kd ≠ 5 → a.Rate = 0 ∧ a.Burst = 0 ∧ a.ls = []) ∧ (a.kd = 3 → 1 ≤ a.W ∧ a.W ≤ 128) ∧ (a.kd ≠ 3 → a.W = 64) ∧ (a.kd = 5 → 0 ≤ a.Rate ∧ a.Rate ≤ 65535 ∧ 1 ≤ a.Burst ∧ a.Burst ≤ 65535 ∧ a.ls.length = a.cs.length)
  len : 1 ≤ a.cs.length ∧ a.cs.length ≤ 4096
  cells : ∀ j, j < a.cs.length → (a.cs.getD j zeroNum).wf ∧ a.okC (a.cs.getD j zeroNum)
  last : ∀ j, j < a.ls.length → 0 ≤ a.ls.getD j 0

set_option maxRecDepth 100000 in
set_option maxHeartbeats 2000000 in
theorem idx1_none (a : Arr) (ho : a.ok) (A' : Option Addr) (n' c' : Nat) (B : Option Addr) (m d : Nat) (A : Option Addr) (n c bx p : Nat) (w : World) (hR : ReadsNums w A n a.cs)
    (hb : w.heap[bx]? = some (.cells #[.pointer (some ⟨p, 0, none⟩)] 65 (0, 0))) (hp : w.heap[p]? = some (.cells (a.vals A' n' c' B m d) 63 (0, 0))) :
    Calls Try.prog 46 #[.slice A n c, .func (.func 33) #[] #[.pointer (some ⟨bx, 0, none⟩)]] w fun e w' => e = .returned (.int .i64 (-1)) ∧ Below w.heap.size w w' := by
  have hnm := hR.2.1
  have hBb : 0 ≤ a.Burst ∧ a.Burst ≤ 9223372036854775807 := by
    have h1 := ho.scal
    rcases ho.kd with h | h | h
    · have := (h1.1 (by omega)).2.1; omega
    · have := (h1.1 (by omega)).2.1; omega
    · have := h1.2.2.2 h; omega
  have HR : Aside (ReadsNums w A n a.cs) := hR
  have HL : Aside (a.cs.length = n) := hR.1
  have HC : Aside (∀ j V, j < n → MA w bx p (a.vals A' n' c' B m d) V → Calls Try.prog 33 #[(a.cs.getD j zeroNum).v, .pointer (some ⟨bx, 0, none⟩)] V fun e w' => e = .returned (.bool false) ∧ Below V.heap.size V w') :=
    fun j V hj hV => bad1_no _ a A' n' c' B m d bx p V (ho.cells j (by rw [HL.out]; exact hj)).1 ho.kd (ho.cells j (by rw [HL.out]; exact hj)).2 hBb.1 hBb.2 hV.hb hV.hp
  have h0 : MA w bx p (a.vals A' n' c' B m d) w := ⟨hb, hp, Below.refl _ _⟩
  clear hR ho hb hp hBb
  go_enter Try.func46, Try.ntmps46
  go_wp2
  go_loopw [8] (fun i wr => ∃ k : Nat, k ≤ n ∧ i = .int .i64 k ∧ MA w bx p (a.vals A' n' c' B m d) wr) (fun i _ => n - (intOf i).toNat)
  case atStart => exact ⟨0, Nat.zero_le _, rfl, h0⟩
  case round =>
    obtain ⟨k, hk, rfl, hM⟩ := hrel
    clear h0
    by_cases hlt : k < n
    · obtain ⟨b, off, hA, hbs, hcells⟩ := (HR.out.below hM.below).2.2 (by omega)
      subst hA
      obtain ⟨q0, q1, q2⟩ := hcells k hlt
      rw [← Nat.add_assoc] at q1 q2
      have HC1 := HC.out k wr hlt hM
      generalize a.cs.getD k zeroNum = x at *
      obtain ⟨xW, xh, xl⟩ := x
      unfold Num.v at HC1
      simp only at q0 q1 q2 HC1
      have HC2 : Aside _ := HC1
      have hk0 : (0 : Int) ≤ (k : Int) := by omega
      have hk1 : (k : Int) < (n : Int) := by omega
      clear hcells HC1
      go_wp2_with fail
      refine Calls.mono HC2.out ?_
      rintro e w5 ⟨rfl, hb5⟩
      have hM5 := hM.next hb5
      go_wp2
      go_roundw
      case rel => exact ⟨k + 1, by omega, by go_num, hM5⟩
      case measure => (simp [intOf]; omega)
    · obtain rfl : k = n := by omega
      go_wp2
      go_ret
      exact ⟨rfl, hM.below⟩
theorem has1_none (a : Arr) (ho : a.ok) (A' : Option Addr) (n' c' : Nat) (B : Option Addr) (m d : Nat) (A : Option Addr) (n c bx p : Nat) (w : World) (hR : ReadsNums w A n a.cs)
    (hb : w.heap[bx]? = some (.cells #[.pointer (some ⟨p, 0, none⟩)] 65 (0, 0))) (hp : w.heap[p]? = some (.cells (a.vals A' n' c' B m d) 63 (0, 0))) :
    Calls Try.prog 35 #[.slice A n c, .func (.func 33) #[] #[.pointer (some ⟨bx, 0, none⟩)]] w fun e w' => e = .returned (.bool false) ∧ Below w.heap.size w w' := by
  have HI := idx1_none a ho A' n' c' B m d A n c bx p w hR hb hp
  clear hb hp hR
  go_enter Try.func35, Try.ntmps35
  go_wp2_with fail
  refine Calls.mono HI ?_
  rintro e w5 ⟨rfl, hb5⟩
  go_wp2
  go_ret
  exact ⟨rfl, hb5⟩
theorem past_any (x : Int) (w : World) : Calls Try.prog 34 #[.int .i64 x] w fun e w' => e = .returned (.bool (decide (x < 0))) ∧ w = w' := by
  go_enter Try.func34, Try.ntmps34
  go_wp2
  go_ret
  exact ⟨rfl, rfl⟩
set_option maxHeartbeats 1000000 in
theorem idx2_none (xs : List Int) (h0 : ∀ j, j < xs.length → 0 ≤ xs.getD j 0) (A : Option Addr) (n c : Nat) (w : World) (hR : Reads w .i64 A n xs) :
    Calls Try.prog 47 #[.slice A n c, .func (.func 34) #[] #[]] w fun e w' => e = .returned (.int .i64 (-1)) ∧ w' = w := by
  have hnm := hR.2.1
  have HR : Aside (Reads w .i64 A n xs) := hR
  have HX : Aside (∀ j, j < n → 0 ≤ xs.getD j 0) := fun j hj => h0 j (by rw [hR.1]; exact hj)
  clear hR h0
  go_enter Try.func47, Try.ntmps47
  go_wp2
  go_loop [8] (fun i => ∃ k : Nat, k ≤ n ∧ i = .int .i64 k) (fun i => n - (intOf i).toNat)
  case atStart => exact ⟨0, Nat.zero_le _, rfl⟩
  case round =>
    obtain ⟨k, hk, rfl⟩ := hrel
    by_cases hlt : k < n
    · obtain ⟨ad, rfl, hc⟩ := HR.out.at_ (k : Int) (by omega) (by omega)
      simp only [Int.toNat_natCast, rd] at hc
      have hx := HX.out k hlt
      generalize xs.getD k 0 = x at *
      have hd : decide (x < 0) = false := decide_eq_false (by omega)
      have hk0 : (0 : Int) ≤ (k : Int) := by omega
      have hk1 : (k : Int) < (n : Int) := by omega
      go_wp2_with fail
      refine (past_any _ _).mono ?_
      rintro e w5 ⟨rfl, rfl⟩
      rw [hd]
      go_wp2
      go_round
      case rel => exact ⟨k + 1, by omega, by go_num⟩
      case measure => (simp [intOf]; omega)
    · obtain rfl : k = n := by omega
      go_wp2
      go_ret
      exact ⟨rfl, rfl⟩
theorem has2_none (xs : List Int) (h0 : ∀ j, j < xs.length → 0 ≤ xs.getD j 0) (A : Option Addr) (n c : Nat) (w : World) (hR : Reads w .i64 A n xs) :
    Calls Try.prog 36 #[.slice A n c, .func (.func 34) #[] #[]] w fun e w' => e = .returned (.bool false) ∧ w' = w := by
  have HI := idx2_none xs h0 A n c w hR
  clear hR h0
  go_enter Try.func36, Try.ntmps36
  go_wp2_with fail
  refine Calls.mono HI ?_
  rintro e w5 ⟨rfl, rfl⟩
  go_wp2
  go_ret
  exact ⟨rfl, rfl⟩
end Go.Proofs.Ytanimonhnngfkaa
