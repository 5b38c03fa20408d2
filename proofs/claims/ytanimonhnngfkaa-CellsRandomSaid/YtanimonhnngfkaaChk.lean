/-
  cells.Check, of arrays that may be.
-/
import Derived.Test.YtanimonhnngfkaaNew
set_option linter.unusedVariables false
set_option linter.unusedSimpArgs false
namespace Go.Proofs.Ytanimonhnngfkaa
open Go.RowKit

/-- Arrays in a row, read. -/
def ArrR (V : World) (b o : Nat) (a : Arr) : Prop :=
  ∃ A n c B m d, (∀ i v, (a.vals A n c B m d)[i]? = some v → V.cell? ⟨b, o + i, none⟩ = some v) ∧ ReadsNums V A n a.cs ∧ Reads V .i64 B m a.ls ∧ (B = none → d = 0)
def RowAt (V : World) (A : Option Addr) (n : Nat) (ars : List Arr) : Prop :=
  ars.length = n ∧ n ≤ 9223372036854775807 ∧ (0 < n → ∃ b off, A = some ⟨b, off, none⟩ ∧ b < V.heap.size ∧ ∀ j, j < n → ArrR V b (off + j * 7) (ars.getD j zeroArr))
theorem ArrR.below {V V' : World} {b o : Nat} {a : Arr} (h : ArrR V b o a) (hb : Below V.heap.size V V') (hlt : b < V.heap.size) : ArrR V' b o a := by
  obtain ⟨A, n, c, B, m, d, h1, h2, h3, h4⟩ := h
  exact ⟨A, n, c, B, m, d, fun i v hv => (hb.cell hlt).trans (h1 i v hv), h2.below hb, h3.below hb, h4⟩
theorem RowAt.below {V V' : World} {A : Option Addr} {n : Nat} {ars : List Arr} (h : RowAt V A n ars) (hb : Below V.heap.size V V') : RowAt V' A n ars :=
  ⟨h.1, h.2.1, fun h0 => by
    obtain ⟨b, off, h1, h2, h3⟩ := h.2.2 h0
    exact ⟨b, off, h1, Nat.lt_of_lt_of_le h2 hb.size, fun j hj => (h3 j hj).below hb h2⟩⟩
theorem flat7 (vss : List (List Value)) : (∀ j, j < vss.length → (vss.getD j []).length = 7) → ∀ j i, j < vss.length → i < 7 → vss.flatten[j * 7 + i]? = (vss.getD j [])[i]? := by
  induction vss with
  | nil => intro _ j i hj; simp at hj
  | cons vs vss ih =>
    intro h j i hj hi
    have h0 : vs.length = 7 := h 0 (by simp)
    cases j with
    | zero => simp only [Nat.zero_mul, Nat.zero_add, List.flatten_cons, List.getD_cons_zero]; rw [List.getElem?_append_left (by omega)]
    | succ j =>
      simp only [List.flatten_cons, List.getD_cons_succ]
      rw [List.getElem?_append_right (by rw [h0]; omega), h0, show (j + 1) * 7 + i - 7 = j * 7 + i by omega]
      exact ih (fun j hj => by have := h (j + 1) (by simpa using hj); simpa using this) j i (by simpa using hj) hi
theorem ArrsAt.rowAt {V : World} {base : Nat} {v : Value} {ars : List Arr} (h : ArrsAt V base v ars) (hok : ∀ j, j < ars.length → (ars.getD j zeroArr).ok) (hln : ars.length ≤ 1048576) : ∃ A c, v = .slice A ars.length c ∧ RowAt V A ars.length ars := by
  obtain ⟨vss, h1, h2, h3⟩ := h
  rcases h3.2 with ⟨rfl, h0⟩ | ⟨g, cap, cur, rfl, hg, hh, hnc, hcm, hcs, ht⟩
  · exact ⟨none, 0, by rw [h0], rfl, by omega, fun h => by omega⟩
  · refine ⟨some ⟨g, 0, none⟩, cap, rfl, rfl, by omega, fun hp => ⟨g, 0, rfl, (Array.getElem?_eq_some_iff.1 hh).1, fun j hj => ?_⟩⟩
    have h7 : ∀ j, j < vss.length → (vss.getD j []).length = 7 := fun j hj => by
      obtain ⟨g, B, e, _⟩ := h2 j (by omega)
      rw [e]; rfl
    obtain ⟨g', B, e, b1, b2, b3, b4⟩ := h2 j hj
    have ho := hok j hj
    have hl := ho.len
    generalize ars.getD j zeroArr = a at *
    have hml : a.ls.length ≤ 4096 := by
      have := ho.scal
      rcases ho.kd with k | k | k
      · rw [(this.1 (by omega)).2.2]; simp
      · rw [(this.1 (by omega)).2.2]; simp
      · have := (this.2.2.2 k).2.2.2.2; omega
    refine ⟨some ⟨g', 0, none⟩, a.cs.length, a.cs.length, B, a.ls.length, a.ls.length, fun i u hu => ?_, readsNums_at b3 (by omega), ?_, fun hB => by
      rcases b4 with ⟨_, h0⟩ | ⟨b, h0, _⟩
      · exact h0
      · rw [hB] at h0; cases h0⟩
    · have hi : i < 7 := (Array.getElem?_eq_some_iff.1 hu).1
      have := h3.cells (g := g) rfl (j * 7 + i) u (by rw [flat7 vss h7 j i (by omega) hi, e]; simpa using hu)
      rwa [add_plain, ← Nat.zero_add (j * 7 + i), ← Nat.add_assoc] at this
    · rcases b4 with ⟨rfl, h0⟩ | ⟨b, rfl, b2, b3, b4⟩
      · have : a.ls = [] := List.eq_nil_of_length_eq_zero h0
        rw [this]; exact Reads.nil _ _
      · exact reads_at b4 (by omega)

set_option maxRecDepth 100000 in
set_option maxHeartbeats 2000000 in
/-- Check's closure, of an array that may be. -/
theorem bad2_no (a : Arr) (ho : a.ok) (A : Option Addr) (n c : Nat) (B : Option Addr) (m d : Nat) (w : World) (hR : ReadsNums w A n a.cs) (hS : Reads w .i64 B m a.ls) :
    Calls Try.prog 29 #[.agg (a.vals A n c B m d)] w fun e w' => e = .returned (.bool false) ∧ Below w.heap.size w w' := by
  have hb2 : Below w.heap.size w ((w.alloc (.cells (a.vals A n c B m d) 38)).alloc (.cells (a.vals A n c B m d) 63)) := ((Below.refl _ _).alloc (Nat.le_refl _) _).alloc (by rw [sizeLit]; omega) _
  have hm := may_ok a ho A n c B m d (w.heap.size + 1) _ (hR.below hb2) (hS.below hb2) (heapLit _ _ 63 _ (by rw [sizeLit]))
  have HM : Aside _ := hm
  clear hm hR hS ho
  unfold Arr.vals at *
  go_enter Try.func29, Try.ntmps29
  go_wp2_with fail
  refine Calls.mono HM.out ?_
  rintro e w5 ⟨rfl, hb5⟩
  go_wp2
  go_ret
  exact ⟨rfl, hb2.trans (hb5.mono hb2.size)⟩

set_option maxRecDepth 100000 in
set_option maxHeartbeats 2000000 in
theorem idx3_none (ars : List Arr) (hok : ∀ j, j < ars.length → (ars.getD j zeroArr).ok) (A : Option Addr) (n c : Nat) (w : World) (hR : RowAt w A n ars) :
    Calls Try.prog 43 #[.slice A n c, .func (.func 29) #[] #[]] w fun e w' => e = .returned (.int .i64 (-1)) ∧ Below w.heap.size w w' := by
  have hnm := hR.2.1
  have HR : Aside (RowAt w A n ars) := hR
  have HX : Aside (∀ j, j < n → (ars.getD j zeroArr).ok) := fun j hj => hok j (by rw [hR.1]; exact hj)
  clear hR hok
  go_enter Try.func43, Try.ntmps43
  go_wp2
  go_loopw [8] (fun i wr => ∃ k : Nat, k ≤ n ∧ i = .int .i64 k ∧ Below w.heap.size w wr) (fun i _ => n - (intOf i).toNat)
  case atStart => exact ⟨0, Nat.zero_le _, rfl, Below.refl _ _⟩
  case round =>
    obtain ⟨k, hk, rfl, hB⟩ := hrel
    by_cases hlt : k < n
    · obtain ⟨b, off, hA, hbs, hcells⟩ := (HR.out.below hB).2.2 (by omega)
      subst hA
      obtain ⟨A', n', c', B', m', d', hc, hr1, hr2, _⟩ := hcells k hlt
      have HC : Aside _ := bad2_no _ (HX.out k hlt) A' n' c' B' m' d' wr hr1 hr2
      generalize ars.getD k zeroArr = a at *
      have q0 := hc 0 _ rfl
      have q1 := hc 1 _ rfl
      have q2 := hc 2 _ rfl
      have q3 := hc 3 _ rfl
      have q4 := hc 4 _ rfl
      have q5 := hc 5 _ rfl
      have q6 := hc 6 _ rfl
      simp only [Nat.add_zero] at q0
      have hk0 : (0 : Int) ≤ (k : Int) := by omega
      have hk1 : (k : Int) < (n : Int) := by omega
      clear hcells hc hr1 hr2
      unfold Arr.vals at HC
      go_wp2_with fail
      refine Calls.mono HC.out ?_
      rintro e w5 ⟨rfl, hb5⟩
      have hM5 := hB.trans (hb5.mono hB.size)
      go_wp2
      go_roundw
      case rel => exact ⟨k + 1, by omega, by go_num, hM5⟩
      case measure => (simp [intOf]; omega)
    · obtain rfl : k = n := by omega
      go_wp2
      go_ret
      exact ⟨rfl, hB⟩
theorem has3_none (ars : List Arr) (hok : ∀ j, j < ars.length → (ars.getD j zeroArr).ok) (A : Option Addr) (n c : Nat) (w : World) (hR : RowAt w A n ars) :
    Calls Try.prog 28 #[.slice A n c, .func (.func 29) #[] #[]] w fun e w' => e = .returned (.bool false) ∧ Below w.heap.size w w' := by
  have HI := idx3_none ars hok A n c w hR
  clear hR
  go_enter Try.func28, Try.ntmps28
  go_wp2_with fail
  refine Calls.mono HI ?_
  rintro e w5 ⟨rfl, hb5⟩
  go_wp2
  go_ret
  exact ⟨rfl, hb5⟩
theorem Check_ok (ars : List Arr) (hok : ∀ j, j < ars.length → (ars.getD j zeroArr).ok) (A : Option Addr) (n c : Nat) (w : World) (hR : RowAt w A n ars) :
    Calls Try.prog 16 #[.slice A n c] w fun e w' => e = .returned (.bool true) ∧ Below w.heap.size w w' := by
  have HI := has3_none ars hok A n c w hR
  clear hR
  go_enter Try.func16, Try.ntmps16
  go_wp2_with fail
  refine Calls.mono HI ?_
  rintro e w5 ⟨rfl, hb5⟩
  go_wp2
  go_ret
  exact ⟨rfl, hb5⟩
end Go.Proofs.Ytanimonhnngfkaa
