/-
  Numbers of bits in a row of the call's own.
-/
import Derived.Test.YtanimonhnngfkaaBitsRow
import Derived.Test.YtanimonhnngfkaaAppendCells
set_option linter.unusedVariables false
set_option linter.unusedSimpArgs false
namespace Go.Proofs.Ytanimonhnngfkaa
open Go.RowKit

theorem infoBits : (Try.prog.info? 45).map (fun i => (i.zero, i.size, i.bytes)) = some (some (.agg #[.int .i64 0, .int .u64 0, .int .u64 0]), 3, 24) := by kernel_rfl
def Num.cells (x : Num) : List Value := [.int .i64 x.W, .int .u64 x.Hi, .int .u64 x.Lo]
def numsV (l : List Num) : List Value := l.flatMap Num.cells
theorem numsV_append (l m : List Num) : numsV (l ++ m) = numsV l ++ numsV m := List.flatMap_append ..
theorem numsV_one (x : Num) : numsV [x] = [.int .i64 x.W, .int .u64 x.Hi, .int .u64 x.Lo] := by simp [numsV, Num.cells]
theorem numsV_length (l : List Num) : (numsV l).length = l.length * 3 := by
  induction l with
  | nil => rfl
  | cons x l ih => unfold numsV at *; rw [List.flatMap_cons, List.length_append, ih, List.length_cons]; show 3 + _ = _; omega
theorem numsV_get (l : List Num) : ∀ j, j < l.length → (numsV l)[j * 3]? = some (.int .i64 (l.getD j zeroNum).W) ∧ (numsV l)[j * 3 + 1]? = some (.int .u64 (l.getD j zeroNum).Hi) ∧ (numsV l)[j * 3 + 2]? = some (.int .u64 (l.getD j zeroNum).Lo) := by
  induction l with
  | nil => intro j hj; simp at hj
  | cons x l ih =>
    intro j hj
    have e : numsV (x :: l) = .int .i64 x.W :: .int .u64 x.Hi :: .int .u64 x.Lo :: numsV l := by unfold numsV; rw [List.flatMap_cons]; rfl
    rw [e]
    cases j with
    | zero => exact ⟨rfl, rfl, rfl⟩
    | succ j =>
      have h := ih j (by simpa using hj)
      rw [show (j + 1) * 3 = j * 3 + 3 by omega, List.getD_cons_succ]
      exact h
theorem own_nums {w : World} {base n : Nat} {v : Value} {l : List Num} (hl : l.length = n) (hn : n ≤ 9223372036854775807) (h : w.ownsRow base 45 3 v n (numsV l)) : ∃ A c, v = .slice A n c ∧ ReadsNums w A n l := by
  rcases h.2 with ⟨rfl, h0⟩ | ⟨g, cap, cur, rfl, hg, hh, hnc, hcm, hcs, ht⟩
  · exact ⟨none, 0, by rw [h0], hl, hn, fun h => by omega⟩
  · refine ⟨some ⟨g, 0, none⟩, cap, rfl, hl, hn, fun hp => ⟨g, 0, rfl, (Array.getElem?_eq_some_iff.1 hh).1, fun j hj => ?_⟩⟩
    obtain ⟨c0, c1, c2⟩ := numsV_get l j (by omega)
    have k : ∀ (i : Nat) (v : Value), (numsV l)[i]? = some v → w.cell? ⟨g, i, none⟩ = some v := fun i v hv => by
      have := h.cells (g := g) rfl i v hv
      rwa [add_plain] at this
    rw [Nat.zero_add, Nat.zero_add, Nat.zero_add]
    exact ⟨k _ _ c0, k _ _ c1, k _ _ c2⟩
end Go.Proofs.Ytanimonhnngfkaa
