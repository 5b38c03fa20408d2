/-
  The journal's records, in plain Lean: frames, and what bytes begin with.
-/
set_option linter.unusedVariables false
set_option linter.unusedSimpArgs false
namespace Go.Proofs.YtdgilloblfbklaaGreatDoor.JMath

/-- A number as four bytes, the lowest first. -/
def le4 (n : Int) : List Int := [n % 256, n / 256 % 256, n / 65536 % 256, n / 16777216 % 256]
def num4 (xs : List Int) : Int := xs.getD 0 0 + 256 * xs.getD 1 0 + 65536 * xs.getD 2 0 + 16777216 * xs.getD 3 0
theorem num4_le4 (n : Int) (h0 : 0 ≤ n) (h1 : n ≤ 4294967295) (r : List Int) : num4 (le4 n ++ r) = n := by
  simp only [num4, le4, List.cons_append, List.nil_append, List.getD_cons_zero, List.getD_cons_succ]
  omega
theorem le4_length (n : Int) : (le4 n).length = 4 := rfl

section
variable (cr : List Int → Int)
def frameF (xs : List Int) : List Int := le4 (xs.length : Int) ++ (le4 (cr xs) ++ xs)
theorem frame_length (xs : List Int) : (frameF cr xs).length = 8 + xs.length := by simp [frameF, le4_length]; omega
/-- How long the record is with which bytes begin. -/
def stepF (bs : List Int) : Option Nat :=
  if 8 ≤ bs.length ∧ 1 ≤ num4 bs ∧ num4 bs ≤ 65537 ∧ num4 bs ≤ (bs.length : Int) - 8 ∧ cr ((bs.drop 8).take (num4 bs).toNat) = num4 (bs.drop 4) then some (num4 bs).toNat else none
def recs : Nat → List Int → List (List Int)
  | 0, _ => []
  | k + 1, bs => match stepF cr bs with
    | none => []
    | some n => (bs.drop 8).take n :: recs k (bs.drop (8 + n))
def total : List (List Int) → Nat
  | [] => 0
  | x :: l => 8 + x.length + total l
theorem total_append (a b : List (List Int)) : total (a ++ b) = total a + total b := by
  induction a with
  | nil => simp [total]
  | cons x a ih => simp only [List.cons_append, total, ih]; omega
def good (xs : List Int) : Prop := 1 ≤ xs.length ∧ xs.length ≤ 65537 ∧ 0 ≤ cr xs ∧ cr xs ≤ 4294967295
theorem num4_frame (xs r : List Int) (h : good cr xs) : num4 (frameF cr xs ++ r) = (xs.length : Int) := by
  unfold frameF
  rw [List.append_assoc]
  exact num4_le4 _ (by omega) (by have := h.2.1; omega) _
theorem drop8 (xs r : List Int) : (frameF cr xs ++ r).drop 8 = xs ++ r := by
  simp [frameF, le4]
theorem drop4 (xs r : List Int) : (frameF cr xs ++ r).drop 4 = le4 (cr xs) ++ (xs ++ r) := by
  simp [frameF, le4]
theorem step_frame (xs r : List Int) (h : good cr xs) : stepF cr (frameF cr xs ++ r) = some xs.length := by
  have h1 := num4_frame cr xs r h
  have h2 := drop8 cr xs r
  have h3 := drop4 cr xs r
  have h4 := num4_le4 (cr xs) h.2.2.1 h.2.2.2 (xs ++ r)
  have hl : (frameF cr xs ++ r).length = 8 + xs.length + r.length := by rw [List.length_append, frame_length]
  unfold stepF
  rw [h1, h2, h3, h4, hl, Int.toNat_natCast, List.take_left]
  rw [if_pos ⟨by omega, by have := h.1; omega, by have := h.2.1; omega, by omega, rfl⟩]
theorem drop_frame (xs r : List Int) : (frameF cr xs ++ r).drop (8 + xs.length) = r := by
  rw [← frame_length cr xs, List.drop_left]
/-- Of a frame that is not whole nothing is read. -/
theorem step_part (xs : List Int) (k : Nat) (hk : k < 8 + xs.length) (h : good cr xs) : stepF cr ((frameF cr xs).take k) = none := by
  unfold stepF
  rw [if_neg]
  rintro ⟨h1, h2, h3, h4, _⟩
  have hl : ((frameF cr xs).take k).length = k := by rw [List.length_take, frame_length]; omega
  rw [hl] at h1 h4
  have hn : num4 ((frameF cr xs).take k) = (xs.length : Int) := by
    have h5 := num4_frame cr xs [] h
    rw [List.append_nil] at h5
    rw [← h5]
    unfold num4
    simp only [List.getD_eq_getElem?_getD, List.getElem?_take]
    rw [if_pos (by omega), if_pos (by omega), if_pos (by omega), if_pos (by omega)]
  rw [hn] at h4
  omega
def flat (l : List (List Int)) : List Int := (l.map (frameF cr)).flatten
theorem flat_cons (x : List Int) (l : List (List Int)) : flat cr (x :: l) = frameF cr x ++ flat cr l := rfl
theorem flat_append (a b : List (List Int)) : flat cr (a ++ b) = flat cr a ++ flat cr b := by simp [flat]
theorem flat_length (l : List (List Int)) : (flat cr l).length = total l := by
  induction l with
  | nil => rfl
  | cons x l ih => rw [flat_cons, List.length_append, frame_length, ih, total]
/-- Frames, and behind them bytes of which nothing is read. -/
theorem recs_flat (tail : List Int) (ht : stepF cr tail = none) : ∀ (l : List (List Int)) (k : Nat), l.length < k → (∀ x ∈ l, good cr x) → recs cr k (flat cr l ++ tail) = l := by
  intro l
  induction l with
  | nil =>
    intro k hk _
    obtain ⟨k, rfl⟩ : ∃ m, k = m + 1 := ⟨k - 1, by simp at hk; omega⟩
    show recs cr (k + 1) tail = []
    unfold recs
    rw [ht]
  | cons x l ih =>
    intro k hk hg
    obtain ⟨k, rfl⟩ : ∃ m, k = m + 1 := ⟨k - 1, by simp at hk; omega⟩
    have hx := hg x List.mem_cons_self
    unfold recs
    rw [flat_cons, List.append_assoc, step_frame cr x _ hx]
    simp only
    rw [drop8, List.take_left, drop_frame, ih k (by simp at hk; omega) (fun y hy => hg y (List.mem_cons_of_mem _ hy))]
theorem step_nil : stepF cr [] = none := by simp [stepF]
/-- All that is read begins the bytes. -/
theorem recs_take : ∀ (l : List (List Int)) (w r : Nat), (∀ x ∈ l, good cr x) → w ≤ l.length → total (l.take w) ≤ r → (w < l.length → r < total (l.take (w + 1))) → r ≤ total l →
    ∃ tail, stepF cr tail = none ∧ (flat cr l).take r = flat cr (l.take w) ++ tail := by
  intro l
  induction l with
  | nil =>
    intro w r _ hw _ _ hr
    simp [total] at hr
    subst hr
    exact ⟨[], step_nil cr, by simp [flat]⟩
  | cons x l ih =>
    intro w r hg hw h1 h2 hr
    have hx := hg x List.mem_cons_self
    cases w with
    | zero =>
      have h3 := h2 (by simp)
      simp only [Nat.zero_add, List.take_succ_cons, List.take_zero, total] at h3
      refine ⟨(frameF cr x).take r, step_part cr x r (by omega) hx, ?_⟩
      rw [flat_cons, List.take_append_of_le_length (by rw [frame_length]; omega)]
      simp [flat]
    | succ w =>
      simp only [List.take_succ_cons, total] at h1 h2 hr
      obtain ⟨tail, ht, he⟩ := ih w (r - (8 + x.length)) (fun y hy => hg y (List.mem_cons_of_mem _ hy)) (by simp at hw; omega) (by omega) (fun hlt => by have := h2 (by simp; omega); omega) (by omega)
      refine ⟨tail, ht, ?_⟩
      rw [List.take_succ_cons, flat_cons, flat_cons, List.append_assoc, ← he]
      rw [List.take_append, frame_length, List.take_of_length_le (by rw [frame_length]; omega)]
/-- What is read of bytes, with any fuel that is enough. -/
theorem recs_more : ∀ (k : Nat) (bs : List Int), bs.length < k → recs cr (k + 1) bs = recs cr k bs := by
  intro k
  induction k with
  | zero => intro bs h; omega
  | succ k ih =>
    intro bs h
    rw [recs, recs]
    cases hs : stepF cr bs with
    | none => rfl
    | some n =>
      simp only
      have h8 : 8 ≤ bs.length := by
        unfold stepF at hs
        split at hs
        · rename_i h; exact h.1
        · cases hs
      rw [ih _ (by rw [List.length_drop]; omega)]
theorem recs_fuel (bs : List Int) (k : Nat) (h : bs.length < k) : recs cr k bs = recs cr (bs.length + 1) bs := by
  obtain ⟨d, rfl⟩ : ∃ d, k = bs.length + 1 + d := ⟨k - bs.length - 1, by omega⟩
  induction d with
  | zero => rfl
  | succ d ih =>
    have h1 := recs_more cr (bs.length + 1 + d) bs (by omega)
    rw [ih (by omega)] at h1
    exact h1
def recsF (bs : List Int) : List (List Int) := recs cr (bs.length + 1) bs
theorem recsF_flat (l : List (List Int)) (tail : List Int) (ht : stepF cr tail = none) (hg : ∀ x ∈ l, good cr x) : recsF cr (flat cr l ++ tail) = l := by
  unfold recsF
  have hl : l.length ≤ (flat cr l).length := by
    clear ht hg
    induction l with
    | nil => exact Nat.zero_le _
    | cons x l ih => rw [flat_cons, List.length_append, frame_length]; simp only [List.length_cons]; omega
  exact recs_flat cr tail ht l _ (by rw [List.length_append]; omega) hg
theorem recsF_all (l : List (List Int)) (hg : ∀ x ∈ l, good cr x) : recsF cr (flat cr l) = l := by
  have := recsF_flat cr l [] (step_nil cr) hg
  rwa [List.append_nil] at this
theorem recsF_cut (l : List (List Int)) (hg : ∀ x ∈ l, good cr x) (w r : Nat) (hw : w ≤ l.length) (h1 : total (l.take w) ≤ r) (h2 : w < l.length → r < total (l.take (w + 1))) (hr : r ≤ total l) : recsF cr ((flat cr l).take r) = l.take w := by
  obtain ⟨tail, ht, he⟩ := recs_take cr l w r hg hw h1 h2 hr
  rw [he]
  exact recsF_flat cr _ tail ht (fun x hx => hg x (List.mem_of_mem_take hx))
theorem step_some {bs : List Int} {n : Nat} (h : stepF cr bs = some n) : 8 + n ≤ bs.length ∧ 1 ≤ n ∧ n ≤ 65537 ∧ (n : Int) = num4 bs := by
  unfold stepF at h
  split at h
  · rename_i hc
    injection h with h
    omega
  · cases h
theorem total_recs : ∀ (k : Nat) (bs : List Int), total (recs cr k bs) ≤ bs.length := by
  intro k
  induction k with
  | zero => intro bs; exact Nat.zero_le _
  | succ k ih =>
    intro bs
    rw [recs]
    cases hs : stepF cr bs with
    | none => exact Nat.zero_le _
    | some n =>
      have h1 := step_some cr hs
      have h2 := ih (bs.drop (8 + n))
      simp only [total, List.length_take, List.length_drop] at h2 ⊢
      omega
/-- Where the records lie, and how long they are. -/
def segs : Nat → Nat → List Int → List (Nat × Nat)
  | 0, _, _ => []
  | k + 1, pos, bs => match stepF cr bs with
    | none => []
    | some n => (pos + 8, n) :: segs k (pos + 8 + n) (bs.drop (8 + n))
theorem recs_segs (all : List Int) : ∀ (k pos : Nat), recs cr k (all.drop pos) = (segs cr k pos (all.drop pos)).map fun s => (all.drop s.1).take s.2 := by
  intro k
  induction k with
  | zero => intro pos; rfl
  | succ k ih =>
    intro pos
    rw [recs, segs]
    cases hs : stepF cr (all.drop pos) with
    | none => rfl
    | some n =>
      simp only [List.map_cons, List.drop_drop]
      rw [show pos + (8 + n) = pos + 8 + n by omega, ih]
theorem segs_in (all : List Int) : ∀ (k pos : Nat), ∀ s ∈ segs cr k pos (all.drop pos), pos ≤ s.1 ∧ s.1 + s.2 ≤ all.length ∧ 1 ≤ s.2 ∧ s.2 ≤ 65537 := by
  intro k
  induction k with
  | zero => intro pos s hs; cases hs
  | succ k ih =>
    intro pos s hs
    rw [segs] at hs
    cases h : stepF cr (all.drop pos) with
    | none => rw [h] at hs; cases hs
    | some n =>
      rw [h] at hs
      have h1 := step_some cr h
      rw [List.length_drop] at h1
      rcases List.mem_cons.1 hs with rfl | hs
      · exact ⟨by simp, by simp; omega, by simp; omega, by simp; omega⟩
      · rw [List.drop_drop, show pos + (8 + n) = pos + 8 + n by omega] at hs
        have := ih _ s hs
        omega
theorem segs_len : ∀ (k pos : Nat) (bs : List Int), (segs cr k pos bs).length ≤ k := by
  intro k
  induction k with
  | zero => intro pos bs; exact Nat.le_refl _
  | succ k ih =>
    intro pos bs
    rw [segs]
    cases h : stepF cr bs with
    | none => exact Nat.zero_le _
    | some n => simp only [List.length_cons]; have := ih (pos + 8 + n) (bs.drop (8 + n)); omega
end
end Go.Proofs.YtdgilloblfbklaaGreatDoor.JMath
