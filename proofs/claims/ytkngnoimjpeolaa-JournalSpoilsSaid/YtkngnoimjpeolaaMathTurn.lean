/-
  The plain law of a sum that is turned.
-/
import Derived.Test.YtkngnoimjpeolaaNames
import Derived.Test.YtkngnoimjpeolaaSumAny
set_option linter.unusedVariables false
set_option linter.unusedSimpArgs false
namespace Go.Proofs.Ytkngnoimjpeolaa
open Go.RowKit SumsMath

theorem foldF_add (a b : Int) (ha : 0 ≤ a) (hb : 0 ≤ b) : foldF (foldF a + b) = foldF (a + b) := by
  unfold foldF
  split
  · rename_i h
    subst h
    simp
  · rename_i h
    rw [if_neg (by omega), if_neg (by omega)]
    omega
theorem csW_fold (l : List Int) (h : ∀ x ∈ l, 0 ≤ x ∧ x ≤ 65535) : 0 ≤ l.sum ∧ csW l = foldF l.sum := by
  have key : ∀ (m : List Int) (a : Int), 0 ≤ a → (∀ x ∈ m, 0 ≤ x ∧ x ≤ 65535) → 0 ≤ m.sum ∧ m.foldl (fun n w => foldF ((n + w) % 4294967296)) (foldF a) = foldF (a + m.sum) := by
    intro m
    induction m with
    | nil => intro a _ _; simp
    | cons x m ih =>
      intro a ha hm
      have hx := hm x (List.mem_cons_self ..)
      have hf := foldF_bd a
      have e1 : foldF ((foldF a + x) % 4294967296) = foldF (a + x) := by
        rw [Int.emod_eq_of_lt (by omega) (by omega), foldF_add a x ha hx.1]
      obtain ⟨h1, h2⟩ := ih (a + x) (by omega) (fun y hy => hm y (List.mem_cons_of_mem _ hy))
      rw [List.foldl_cons, e1, h2, List.sum_cons]
      exact ⟨by omega, by rw [Int.add_assoc]⟩
  have := key l 0 (by omega) h
  refine ⟨this.1, ?_⟩
  have h0 : foldF 0 = 0 := rfl
  rw [h0] at this
  simpa [csW] using this.2

/-- The words of bytes of which one word is another one. -/
theorem set_sum (l : List Int) (k : Nat) (x : Int) (hk : k < l.length) : (l.set k x).sum = l.sum - l.getD k 0 + x := by
  induction l generalizing k with
  | nil => simp at hk
  | cons y l ih =>
    cases k with
    | zero => simp; omega
    | succ k =>
      have := ih k (by simpa using hk)
      simp only [List.set_cons_succ, List.sum_cons, List.getD_cons_succ]
      omega
theorem getD_set (l : List Int) (i j : Nat) (x : Int) (hi : i < l.length) : (l.set i x).getD j 0 = if i = j then x else l.getD j 0 := by
  rw [List.getD_eq_getElem?_getD, List.getElem?_set]
  split
  · rename_i h; subst h; simp [hi]
  · rw [List.getD_eq_getElem?_getD]
theorem words_set (zs : List Int) (q : Nat) (hi lo : Int) (hq : 2 * q + 1 < zs.length) : wordsOf ((zs.set (2 * q) hi).set (2 * q + 1) lo) = (wordsOf zs).set q (256 * hi + lo) := by
  have hl : ((zs.set (2 * q) hi).set (2 * q + 1) lo).length = zs.length := by simp
  apply List.ext_getElem?
  intro j
  unfold wordsOf wordsTo
  rw [hl, List.getElem?_set, List.length_map, List.length_range, List.getElem?_map, List.getElem?_map]
  by_cases hj : j < (zs.length + 1) / 2
  · rw [List.getElem?_range hj]
    simp only [Option.map_some]
    have e : wordAt ((zs.set (2 * q) hi).set (2 * q + 1) lo) j = if q = j then 256 * hi + lo else wordAt zs j := by
      unfold wordAt
      rw [getD_set _ _ _ _ (by simp; omega), getD_set _ _ _ _ (by omega), getD_set _ _ _ _ (by simp; omega), getD_set _ _ _ _ (by omega)]
      by_cases hqj : q = j
      · subst hqj
        rw [if_neg (by omega : ¬ 2 * q + 1 = 2 * q), if_pos rfl, if_pos rfl, if_pos rfl]
      · rw [if_neg (by omega : ¬ 2 * q + 1 = 2 * j), if_neg (by omega : ¬ 2 * q = 2 * j), if_neg (by omega : ¬ 2 * q + 1 = 2 * j + 1), if_neg (by omega : ¬ 2 * q = 2 * j + 1), if_neg hqj]
    rw [e]
    split
    · rw [if_pos (by omega)]
    · rfl
  · rw [List.getElem?_eq_none (by simp; omega)]
    simp only [Option.map_none]
    split
    · rw [if_neg (by omega)]
    · rfl
theorem wordsOf_length (zs : List Int) : (wordsOf zs).length = (zs.length + 1) / 2 := by simp [wordsOf, wordsTo]
theorem wordsOf_getD (zs : List Int) (q : Nat) (hq : q < (zs.length + 1) / 2) : (wordsOf zs).getD q 0 = wordAt zs q := by
  rw [List.getD_eq_getElem?_getD, wordsOf, wordsTo, List.getElem?_map, List.getElem?_range hq]
  rfl
theorem sum_zero (l : List Int) (h : ∀ x ∈ l, 0 ≤ x) (hs : l.sum = 0) : ∀ x ∈ l, x = 0 := by
  induction l with
  | nil => intro x hx; cases hx
  | cons y l ih =>
    have hy := h y (List.mem_cons_self ..)
    have hp : ∀ m : List Int, (∀ x ∈ m, 0 ≤ x) → 0 ≤ m.sum := by
      intro m
      induction m with
      | nil => intro _; simp
      | cons z m ih2 => intro hm; have := hm z (List.mem_cons_self ..); have := ih2 (fun x hx => hm x (List.mem_cons_of_mem _ hx)); rw [List.sum_cons]; omega
    have hl := hp l (fun x hx => h x (List.mem_cons_of_mem _ hx))
    rw [List.sum_cons] at hs
    intro x hx
    rcases List.mem_cons.1 hx with rfl | hx
    · omega
    · exact ih (fun x hx => h x (List.mem_cons_of_mem _ hx)) (by omega) x hx

end Go.Proofs.Ytkngnoimjpeolaa
