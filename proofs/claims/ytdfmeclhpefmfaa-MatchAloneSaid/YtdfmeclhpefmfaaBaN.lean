/-
  MatchAlone, plainly.
-/
import Derived.Test.YtdfmeclhpefmfaaBaB1
set_option linter.unusedVariables false
set_option linter.unusedSimpArgs false
set_option maxRecDepth 100000
namespace Go.Proofs.Ytdfmeclhpefmfaa.Own
open Go.RowKit Go.Proofs.Ytdfmeclhpefmfaa.K YtdfmeclhpefmfaaW.PrintWords YtdfmeclhpefmfaaW.PrintLast YtdfmeclhpefmfaaW.PrintMore

/-- The first of the heaviest that count. -/
def SpecF (hit : S30 → Bool) (wt : S30 → Int) (get : Nat → S30) (n : Nat) (r : Int) : Prop :=
  (r = -1 ∧ ∀ j, j < n → hit (get j) = false) ∨ ∃ k : Nat, r = (k : Int) ∧ k < n ∧ hit (get k) = true ∧ ∀ j, j < n → hit (get j) = true → wt (get j) ≤ wt (get k) ∧ (j < k → wt (get j) < wt (get k))
section
variable {hit : S30 → Bool} {wt : S30 → Int} {get : Nat → S30} {n : Nat} {r r' : Int}
theorem SpecF.uniq (h : SpecF hit wt get n r) (h' : SpecF hit wt get n r') : r = r' := by
  rcases h with ⟨h1, h2⟩ | ⟨k, h1, h2, h3, h4⟩ <;> rcases h' with ⟨g1, g2⟩ | ⟨k', g1, g2, g3, g4⟩
  · omega
  · have := h2 k' g2
    rw [g3] at this
    cases this
  · have := g2 k h2
    rw [h3] at this
    cases this
  · have a := h4 k' g2 g3
    have b := g4 k h2 h3
    rcases Nat.lt_trichotomy k k' with h | h | h
    · have := b.2 h
      omega
    · omega
    · have := a.2 h
      omega
/-- Without the i-th. -/
def skip (get : Nat → S30) (i : Nat) (j : Nat) : S30 := if j < i then get j else get (j + 1)
theorem SpecF.skip (k i : Nat) (hi : i < n) (hne : i ≠ k) (h : SpecF hit wt get n (k : Int)) : SpecF hit wt (skip get i) (n - 1) (if i < k then (k : Int) - 1 else (k : Int)) := by
  rcases h with ⟨h1, h2⟩ | ⟨k', h1, h2, h3, h4⟩
  · omega
  · have : k' = k := by omega
    subst this
    have all : ∀ j, j < n - 1 → hit (Own.skip get i j) = true → wt (Own.skip get i j) ≤ wt (get k') ∧ ((if j < i then j else j + 1) < k' → wt (Own.skip get i j) < wt (get k')) := by
      intro j hj hh
      unfold Own.skip at hh ⊢
      by_cases hji : j < i
      · simp only [hji, if_true] at hh ⊢
        exact h4 j (by omega) hh
      · simp only [hji, if_false] at hh ⊢
        exact h4 (j + 1) (by omega) hh
    by_cases hik : i < k'
    · rw [if_pos hik]
      have e : Own.skip get i (k' - 1) = get k' := by
        unfold Own.skip
        rw [if_neg (by omega), show k' - 1 + 1 = k' by omega]
      refine .inr ⟨k' - 1, by omega, by omega, by rw [e]; exact h3, fun j hj hh => ?_⟩
      rw [e]
      refine ⟨(all j hj hh).1, fun hjk => (all j hj hh).2 ?_⟩
      split <;> omega
    · rw [if_neg hik]
      have e : Own.skip get i k' = get k' := by
        unfold Own.skip
        rw [if_pos (by omega)]
      refine .inr ⟨k', rfl, by omega, by rw [e]; exact h3, fun j hj hh => ?_⟩
      rw [e]
      refine ⟨(all j hj hh).1, fun hjk => (all j hj hh).2 ?_⟩
      split <;> omega
end
theorem best_spec (ks : List Int) (keys : List S40) (l : List S30) : ∀ k, k ≤ l.length →
    ((bestB ks l (hitsTo ks keys l k)).1 = -1 ∧ ∀ j, j < k → hitsE ks keys (l.getD j z30) = false) ∨
    ∃ i : Nat, (bestB ks l (hitsTo ks keys l k)).1 = (i : Int) ∧ (bestB ks l (hitsTo ks keys l k)).2 = wtE ks (l.getD i z30) ∧ i < k ∧ hitsE ks keys (l.getD i z30) = true ∧
      ∀ j, j < k → hitsE ks keys (l.getD j z30) = true → wtE ks (l.getD j z30) ≤ wtE ks (l.getD i z30) ∧ (j < i → wtE ks (l.getD j z30) < wtE ks (l.getD i z30))
  | 0, _ => .inl ⟨rfl, fun j hj => absurd hj (by omega)⟩
  | k + 1, hk => by
    have ih := best_spec ks keys l k (by omega)
    cases hh : hitsE ks keys (l.getD k z30) with
    | false =>
      rw [hitsTo_no _ _ _ _ hh]
      rcases ih with ⟨h1, h2⟩ | ⟨i, h1, h2, h3, h4, h5⟩
      · refine .inl ⟨h1, fun j hj => ?_⟩
        by_cases e : j = k
        · rw [e]; exact hh
        · exact h2 j (by omega)
      · refine .inr ⟨i, h1, h2, by omega, h4, fun j hj hj2 => ?_⟩
        by_cases e : j = k
        · rw [e, hh] at hj2; cases hj2
        · exact h5 j (by omega) hj2
    | true =>
      rw [hitsTo_yes _ _ _ _ hh, bestB_snoc]
      unfold stepB
      rcases ih with ⟨h1, h2⟩ | ⟨i, h1, h2, h3, h4, h5⟩
      · rw [h1, if_pos (.inl (by decide))]
        refine .inr ⟨k, rfl, rfl, by omega, hh, fun j hj hj2 => ?_⟩
        by_cases e : j = k
        · rw [e]; exact ⟨Int.le_refl _, fun h => absurd h (by omega)⟩
        · rw [h2 j (by omega)] at hj2; cases hj2
      · by_cases hgt : wtE ks (l.getD k z30) > (bestB ks l (hitsTo ks keys l k)).2
        · rw [if_pos (.inr hgt)]
          rw [h2] at hgt
          refine .inr ⟨k, rfl, rfl, by omega, hh, fun j hj hj2 => ?_⟩
          by_cases e : j = k
          · rw [e]; exact ⟨Int.le_refl _, fun h => absurd h (by omega)⟩
          · have := h5 j (by omega) hj2
            exact ⟨by omega, fun _ => by omega⟩
        · rw [if_neg (by rw [h1]; omega)]
          rw [h2] at hgt
          refine .inr ⟨i, h1, h2, by omega, h4, fun j hj hj2 => ?_⟩
          by_cases e : j = k
          · rw [e]; exact ⟨by omega, fun h => absurd h (by omega)⟩
          · exact h5 j (by omega) hj2
theorem find_spec (ks ws : List Int) (sz : Int) (l : List S30) (keys : List S40) (h : (tmayB ks ws sz && fitsB keys ws) = true) : SpecF (hitsE ks keys) (wtE ks) (fun j => l.getD j z30) l.length (findP ks ws sz l keys) := by
  unfold findP
  rw [if_pos h]
  rcases best_spec ks keys l l.length (Nat.le_refl _) with h | ⟨i, h1, h2, h3, h4, h5⟩
  · exact .inl h
  · exact .inr ⟨i, h1, h3, h4, h5⟩
theorem find_in (ks ws : List Int) (sz : Int) (l : List S30) (keys : List S40) : findP ks ws sz l keys = -1 ∨ ∃ k : Nat, findP ks ws sz l keys = (k : Int) ∧ k < l.length := by
  by_cases h : (tmayB ks ws sz && fitsB keys ws) = true
  · rcases find_spec ks ws sz l keys h with ⟨h1, _⟩ | ⟨k, h1, h2, _⟩
    · exact .inl h1
    · exact .inr ⟨k, h1, h2⟩
  · unfold findP
    rw [if_neg h]
    exact .inl rfl
theorem one_len (l : List S30) (i : Nat) (hi : i < l.length) : ((l.take (i + 1)).drop i).length = 1 := by
  rw [List.length_drop, List.length_take]; omega
theorem one_get (l : List S30) (i : Nat) (hi : i < l.length) : ((l.take (i + 1)).drop i).getD 0 z30 = l.getD i z30 := by
  rw [List.getD_eq_getElem?_getD, List.getElem?_drop, List.getElem?_take, if_pos (by omega), List.getD_eq_getElem?_getD, Nat.add_zero]
theorem alone_none (ks ws : List Int) (sz : Int) (l : List S30) (keys : List S40) (i : Nat) (hi : i < l.length) (h : findP ks ws sz l keys = -1) : findP ks ws sz ((l.take (i + 1)).drop i) keys = -1 := by
  by_cases hg : (tmayB ks ws sz && fitsB keys ws) = true
  · rcases find_spec ks ws sz l keys hg with ⟨_, h2⟩ | ⟨k, h1, _⟩
    · rcases find_spec ks ws sz ((l.take (i + 1)).drop i) keys hg with ⟨h3, _⟩ | ⟨k, g1, g2, g3, _⟩
      · exact h3
      · rw [one_len l i hi] at g2
        have : k = 0 := by omega
        subst this
        simp only [one_get l i hi] at g3
        rw [h2 i hi] at g3
        cases g3
    · omega
  · unfold findP
    rw [if_neg hg]
theorem alone_one (ks ws : List Int) (sz : Int) (l : List S30) (keys : List S40) (k : Nat) (h : findP ks ws sz l keys = (k : Int)) : findP ks ws sz ((l.take (k + 1)).drop k) keys = 0 := by
  by_cases hg : (tmayB ks ws sz && fitsB keys ws) = true
  · rcases find_spec ks ws sz l keys hg with ⟨h1, _⟩ | ⟨k', h1, h2, h3, _⟩
    · omega
    · have : k' = k := by omega
      subst this
      rcases find_spec ks ws sz ((l.take (k' + 1)).drop k') keys hg with ⟨_, g1⟩ | ⟨j, g1, g2, _⟩
      · have := g1 0 (by rw [one_len l k' h2]; omega)
        simp only [one_get l k' h2] at this
        rw [h3] at this
        cases this
      · rw [one_len l k' h2] at g2
        rw [g1]
        omega
  · unfold findP at h
    rw [if_neg hg] at h
    omega
theorem alone_rest (ks ws : List Int) (sz : Int) (l : List S30) (keys : List S40) (k i : Nat) (hi : i < l.length) (hne : i ≠ k) (h : findP ks ws sz l keys = (k : Int)) : findP ks ws sz (l.take i ++ l.drop (i + 1)) keys = if i < k then (k : Int) - 1 else (k : Int) := by
  by_cases hg : (tmayB ks ws sz && fitsB keys ws) = true
  · have h1 := find_spec ks ws sz l keys hg
    rw [h] at h1
    have h2 := h1.skip k i hi hne
    have h3 := find_spec ks ws sz (l.take i ++ l.drop (i + 1)) keys hg
    have hl : (l.take i ++ l.drop (i + 1)).length = l.length - 1 := by rw [List.length_append, List.length_take, List.length_drop]; omega
    have hget : (fun j => (l.take i ++ l.drop (i + 1)).getD j z30) = Own.skip (fun j => l.getD j z30) i := by
      funext j
      unfold Own.skip
      by_cases hj : j < i
      · rw [if_pos hj]
        show _ = l.getD j z30
        rw [List.getD_eq_getElem?_getD, List.getElem?_append_left (by rw [List.length_take]; omega), List.getElem?_take, if_pos hj, List.getD_eq_getElem?_getD]
      · rw [if_neg hj]
        show _ = l.getD (j + 1) z30
        rw [List.getD_eq_getElem?_getD, List.getElem?_append_right (by rw [List.length_take]; omega), List.getElem?_drop, List.length_take, List.getD_eq_getElem?_getD]
        rw [show i + 1 + (j - min i l.length) = j + 1 by omega]
    rw [hl, hget] at h3
    exact h3.uniq h2
  · unfold findP at h
    rw [if_neg hg] at h
    omega
/-! ### entries' own cells -/
structure ERaw (w : World) (l : List S30) (us : List EV) : Prop where
  len : us.length = l.length
  ok : ∀ i, i < l.length → ∃ A0 c0 A3 c3, us.getD i zEV = (.slice A0 (l.getD i z30).f0.length c0, .slice A3 (l.getD i z30).f3.length c3) ∧ (l.getD i z30).f0.length ≤ c0 ∧ Kd.C k42 w A0 (l.getD i z30).f0.length (l.getD i z30).f0 ∧ (l.getD i z30).f3.length ≤ c3 ∧ Kd.C k40 w A3 (l.getD i z30).f3.length (l.getD i z30).f3
theorem ERaw.below {w w' : World} {l : List S30} {us : List EV} (h : ERaw w l us) (hb : Below w.heap.size w w') : ERaw w' l us :=
  ⟨h.len, fun i hi => by
    obtain ⟨A0, c0, A3, c3, h1, h2, h3, h4, h5⟩ := h.ok i hi
    exact ⟨A0, c0, A3, c3, h1, h2, Kd.C_below h3 hb, h4, Kd.C_below h5 hb⟩⟩
theorem getD_app {α : Type} (z : α) (a b : List α) (i : Nat) : (a ++ b).getD i z = if i < a.length then a.getD i z else b.getD (i - a.length) z := by
  by_cases h : i < a.length
  · rw [if_pos h, List.getD_eq_getElem?_getD, List.getElem?_append_left h, List.getD_eq_getElem?_getD]
  · rw [if_neg h, List.getD_eq_getElem?_getD, List.getElem?_append_right (by omega), List.getD_eq_getElem?_getD]
theorem ERaw.app {w : World} {l l' : List S30} {us us' : List EV} (h : ERaw w l us) (h' : ERaw w l' us') : ERaw w (l ++ l') (us ++ us') :=
  ⟨by rw [List.length_append, List.length_append, h.len, h'.len], fun i hi => by
    rw [getD_app, getD_app, h.len]
    rw [List.length_append] at hi
    by_cases e : i < l.length
    · rw [if_pos e, if_pos e]
      exact h.ok i e
    · rw [if_neg e, if_neg e]
      exact h'.ok (i - l.length) (by omega)⟩
theorem entsL_app {w : World} {l l' : List S30} {us us' : List EV} (h : ERaw w l us) : entsL (l ++ l') (us ++ us') = entsL l us ++ entsL l' us' := by
  unfold entsL
  rw [List.zip_append h.len.symm, List.flatMap_append]
theorem ERaw.reads {W : World} {b2 c : Nat} {A : Option Addr} {l : List S30} {us : List EV} (h : ERaw W l us) (hr : CRow W b2 30 4 (.slice A l.length c) l.length (entsL l us)) (hm : l.length ≤ 9223372036854775807) : Kd.C k30 W A l.length l := by
  refine ⟨rfl, hm, fun hn => ?_⟩
  obtain ⟨g, e, hc⟩ := hr.cells hn
  refine ⟨_, e, fun j p hj => ?_⟩
  have hjl : j < l.length := (List.getElem?_eq_some_iff.1 hj).1
  have hp : l.getD j z30 = p := by rw [List.getD_eq_getElem?_getD, hj]; rfl
  obtain ⟨A0, c0, A3, c3, h1, h2, h3, h4, h5⟩ := h.ok j hjl
  rw [hp] at h1 h2 h3 h4 h5
  refine ⟨entL p (us.getD j zEV), rfl, ?_, fun i u hu => ?_⟩
  · rw [h1]
    exact k30_mk W p h2 h3 h4 h5
  · have hi : i < 4 := by
      rcases Nat.lt_or_ge i 4 with h | h
      · exact h
      · rw [List.getElem?_eq_none (by simpa [entL] using h)] at hu; cases hu
    have := entsL_get h.len j i hjl hi
    rw [hp, hu] at this
    exact hc _ u this
theorem raw_nil (w : World) : ERaw w [] [] := ⟨rfl, fun i hi => by simp at hi⟩
theorem raw_of {w : World} {A : Option Addr} {l : List S30} (h : Kd.C k30 w A l.length l) : ∃ us, ERaw w l us ∧ Cells w A l.length 4 (entsL l us) := by
  by_cases hn : 0 < l.length
  · obtain ⟨us, hl, hx⟩ := list_of zEV l.length (p := fun i u => (∃ A0 c0 A3 c3, u = ((.slice A0 (l.getD i z30).f0.length c0, .slice A3 (l.getD i z30).f3.length c3) : EV) ∧ (l.getD i z30).f0.length ≤ c0 ∧ Kd.C k42 w A0 (l.getD i z30).f0.length (l.getD i z30).f0 ∧ (l.getD i z30).f3.length ≤ c3 ∧ Kd.C k40 w A3 (l.getD i z30).f3.length (l.getD i z30).f3) ∧ ∀ ad, A = some ad → ∀ j v, (entL (l.getD i z30) u)[j]? = some v → w.cell? (ad.add (i * 4 + j)) = some v) (fun i hi => by
      obtain ⟨ad, A0, c0, A3, c3, rfl, x0, x1, x2, x3, l0, r0, l3, r3⟩ := at_T30 h (i : Int) (by omega) (by omega)
      rw [Int.toNat_natCast] at x0 x1 x2 x3
      simp only [rd_T30, Int.toNat_natCast] at x0 x1 x2 x3 l0 r0 l3 r3
      refine ⟨(.slice A0 (l.getD i z30).f0.length c0, .slice A3 (l.getD i z30).f3.length c3), ⟨A0, c0, A3, c3, rfl, l0, r0, l3, r3⟩, ?_⟩
      rintro ad' e j v hv
      injection e with e
      subst e
      rw [← Addr.add_add]
      match j, hv with
      | 0, hv => injection hv with hv; subst hv; exact x0
      | 1, hv => injection hv with hv; subst hv; exact x1
      | 2, hv => injection hv with hv; subst hv; exact x2
      | 3, hv => injection hv with hv; subst hv; exact x3
      | j + 4, hv => simp [entL] at hv)
    have hraw : ERaw w l us := ⟨hl, fun i hi => (hx i hi).1⟩
    obtain ⟨ad, hA, _⟩ := h.2.2 hn
    refine ⟨us, hraw, entsL_len hl, ?_, fun _ => ⟨ad, hA, fun j u hu => ?_⟩⟩
    · intro u hu
      obtain ⟨j, hj, rfl⟩ := List.mem_iff_getElem.1 hu
      have hjl : j < l.length * 4 := by rw [← entsL_len hl]; exact hj
      have e1 := entsL_get hl (j / 4) (j % 4) (by omega) (by omega)
      rw [show j / 4 * 4 + j % 4 = j by omega, List.getElem?_eq_getElem hj] at e1
      obtain ⟨A0, c0, A3, c3, h1, _⟩ := (hx (j / 4) (by omega)).1
      rw [h1] at e1
      have hm : (entsL l us)[j] ∈ entL (l.getD (j / 4) z30) (.slice A0 (l.getD (j / 4) z30).f0.length c0, .slice A3 (l.getD (j / 4) z30).f3.length c3) := List.mem_of_getElem? e1.symm
      simp only [entL, List.mem_cons, List.not_mem_nil, or_false] at hm
      rcases hm with h | h | h | h <;> rw [h] <;> rfl
    · have hj : j < (entsL l us).length := (List.getElem?_eq_some_iff.1 hu).1
      have hjl : j < l.length * 4 := by rw [← entsL_len hl]; exact hj
      have e1 := entsL_get hl (j / 4) (j % 4) (by omega) (by omega)
      rw [show j / 4 * 4 + j % 4 = j by omega, hu] at e1
      have := (hx (j / 4) (by omega)).2 ad hA (j % 4) u e1.symm
      rw [show j / 4 * 4 + j % 4 = j by omega] at this
      exact this
  · have : l = [] := List.eq_nil_of_length_eq_zero (by omega)
    subst this
    refine ⟨[], raw_nil w, ?_⟩
    refine ⟨?_, ?_, ?_⟩
    · rfl
    · intro u hu
      simp [entsL] at hu
    · intro h
      exact absurd h hn
end Go.Proofs.Ytdfmeclhpefmfaa.Own

/- MatchAlone: the walk. -/
set_option linter.unusedVariables false
set_option linter.unusedSimpArgs false
set_option maxRecDepth 100000
namespace Go.Proofs.Ytdfmeclhpefmfaa.Own
open Go.RowKit Go.Proofs.Ytdfmeclhpefmfaa.K YtdfmeclhpefmfaaW.PrintWords YtdfmeclhpefmfaaW.PrintLast YtdfmeclhpefmfaaW.PrintMore

theorem info30_ : ∃ i, Try.prog.info? 30 = some i ∧ i.size = 4 := by
  obtain ⟨i, hi, h⟩ := Option.map_eq_some_iff.1 infoE
  exact ⟨i, hi, by injection h with _ h; injection h with h _⟩
theorem cut_pre {i : TypeInfo} (hi : Try.prog.info? 30 = some i) (A : Option Addr) (n c k : Nat) (hk : k < n) (hc : n ≤ c) :
    ∀ W : World, (Instr.slice 26 (.slice A n c) none (some (.int .i64 (k : Int))) none).run Try.prog W = .ok (.slice A k c) W := fun W => by
  have h := cut_to (P := Try.prog) 26 30 .i64 Try.underlying26 hi A n c (k : Int) (by omega) (by omega) hc W
  rw [h, Int.toNat_natCast]
theorem cut_post {i : TypeInfo} (hi : Try.prog.info? 30 = some i) (hs : i.size = 4) (A : Option Addr) (n c k : Nat) (hk : k < n) (hc : n ≤ c) :
    ∀ W : World, (Instr.slice 26 (.slice A n c) (some (.int .i64 ((k : Int) + 1))) none none).run Try.prog W = .ok (.slice (if c = k + 1 then A else A.map (·.add ((k + 1) * 4))) (n - (k + 1)) (c - (k + 1))) W := fun W => by
  have h := cut_from (P := Try.prog) 26 30 .i64 Try.underlying26 hi 4 hs A n c ((k : Int) + 1) (by omega) (by omega) W
  rw [h]
  have e : ((k : Int) + 1).toNat = k + 1 := by omega
  rw [e]
theorem Cells.keep {w w' : World} {A : Option Addr} {m sz : Nat} {ys : List Value} (h : Cells w A m sz ys) (hb : Below w.heap.size w w') : Cells w' A m sz ys :=
  ⟨h.1, h.2.1, fun hm => by
    obtain ⟨ad, e, hc⟩ := h.2.2 hm
    exact ⟨ad, e, fun j u hu => (hb.cell (World.block_lt_of_cell? w _ (hc j u hu))).trans (hc j u hu)⟩⟩
theorem rest_reads {wr w2 : World} {a b : List S30} {us1 us2 : List EV} {v2 : Value} (hb : Below wr.heap.size wr w2) (r1 : ERaw wr a us1) (r2 : ERaw wr b us2)
    (h : w2.ownsRow wr.heap.size 30 4 v2 (0 + a.length + b.length) (([] ++ entsL a us1) ++ entsL b us2)) (hm : (a ++ b).length ≤ 60) :
    ∃ A2 c2, v2 = .slice A2 (a ++ b).length c2 ∧ (a ++ b).length ≤ c2 ∧ Kd.C k30 w2 A2 (a ++ b).length (a ++ b) := by
  have hr := CRow.of_own h
  rw [show 0 + a.length + b.length = (a ++ b).length by rw [List.length_append]; omega, List.nil_append, ← entsL_app (l' := b) (us' := us2) r1] at hr
  obtain ⟨A2, c2, rfl, hc, _⟩ := hr.form
  exact ⟨A2, c2, rfl, hc, ((r1.below hb).app (r2.below hb)).reads hr (by omega)⟩
theorem cut_one {i : TypeInfo} (hi : Try.prog.info? 30 = some i) (hs : i.size = 4) (A : Option Addr) (n c k : Nat) (hk : k < n) (hc : n ≤ c) :
    ∀ W : World, (Instr.slice 26 (.slice A n c) (some (.int .i64 (k : Int))) (some (.int .i64 ((k : Int) + 1))) none).run Try.prog W = .ok (.slice (if c = k then A else A.map (·.add (k * 4))) 1 (c - k)) W := fun W => by
  have h := cut_mid (P := Try.prog) 26 30 .i64 .i64 Try.underlying26 hi 4 hs A n c (k : Int) ((k : Int) + 1) (by omega) (by omega) (by omega) hc W
  rw [h]
  have e : ((k : Int) + 1).toNat - ((k : Int)).toNat = 1 := by omega
  rw [e, Int.toNat_natCast]
set_option maxHeartbeats 6400000 in
theorem alone_any (A : Option Addr) (c : Nat) (ks : List Int) (B : Option Addr) (d : Nat) (ws : List Int) (sz : Int) (A1 : Option Addr) (c1 : Nat) (l : List S30) (A0 A3 : Option Addr) (c0 c3 : Nat) (e : S30) (K : Option Addr) (kc : Nat) (keys : List S40) (w : World) (ht : TabAt w A c ks B d ws)
    (hl : Kd.C k30 w A1 l.length l) (hl1 : l.length ≤ c1) (hm : Kd.C k42 w A0 e.f0.length e.f0) (hm1 : e.f0.length ≤ c0) (ha : Kd.C k40 w A3 e.f3.length e.f3) (ha1 : e.f3.length ≤ c3) (hl47 : l.length ≤ B47) (hb : ∀ x ∈ l, bigOk x) (he : bigOk e) (hk47 : ks.length ≤ B47) (hw47 : ws.length ≤ B47) (hK : Kd.C k40 w K keys.length keys) (hK1 : keys.length ≤ kc) :
    Calls Try.prog 4 #[.agg #[.slice A ks.length c, .slice B ws.length d, .int .i64 sz, .slice A1 l.length c1, .slice A0 e.f0.length c0, .int .i64 e.f1, .string e.f2, .slice A3 e.f3.length c3], .slice K keys.length kc] w fun r w' => r = .returned (.bool true) ∧ Below w.heap.size w w' := by
  have hu25 := Try.underlying25
  have hu26 := Try.underlying26
  have hu30 := Try.underlying30
  have hu32 := Try.underlying32
  have hu40 := Try.underlying40
  have hu42 := Try.underlying42
  obtain ⟨b, hbe, hfew⟩ := beyond_f ks ws sz l e hl47 hb he hk47 hw47 (l.length + 1) (by omega)
  have hb1 := below_alloc (Below.refl w.heap.size w) (.cells #[.slice A ks.length c, .slice B ws.length d, .int .i64 sz, .slice A1 l.length c1, .slice A0 e.f0.length c0, .int .i64 e.f1, .string e.f2, .slice A3 e.f3.length c3] 32 (0,0))
  have H1 := Aside0.mk (show CaseAt w w.heap.size A c ks B d ws sz A1 c1 l A0 A3 c0 c3 e _ from ⟨heap_alloc_new w _, ht.below hb1, Kd.C_below hl hb1, Kd.C_below hm hb1, Kd.C_below ha hb1, hb1⟩)
  have HBY := Aside0.mk (fun W (h : CaseAt w w.heap.size A c ks B d ws sz A1 c1 l A0 A3 c0 c3 e W) => pointsmanlaw13_beyond.calls (l.length + 1) A c ks B d ws sz A1 c1 l A0 c0 e.f0 e.f1 e.f2 A3 c3 e.f3 b W h.tab.hk h.tab.hc h.tab.hw h.tab.hd h.hl hl1 h.hm hm1 h.ha ha1 hbe)
  have HFD := Aside0.mk (fun W (h : CaseAt w w.heap.size A c ks B d ws sz A1 c1 l A0 A3 c0 c3 e W) (L : List S30) (AL : Option Addr) (cL : Nat) (hL : Kd.C k30 W AL L.length L) (hL1 : L.length ≤ cL) => find_ok sz L (c1 := cL) keys (kc := kc) W h.tab hL hL1 (Kd.C_below hK h.below) hK1)
  have HL1 := Aside0.mk hl1
  have hl9 : l.length ≤ 9223372036854775807 := hl.2.1
  have hk9 : keys.length ≤ 9223372036854775807 := hK.2.1
  clear ht hl hl1 hm hm1 ha ha1 hl47 hb he hk47 hw47 hb1 hbe hfew hK hK1
  obtain ⟨em, ep, es, ea⟩ := e
  simp only at *
  cases b with
  | true =>
    go_enter Try.func4, Try.ntmps4
    go_wp2_with fail
    refine Calls.mono (HBY.out _ H1.out) ?_
    rintro r w2 ⟨rfl, hb⟩
    have H2 := Aside0.mk (H1.out.next hb)
    clear hb
    go_wp2_with fail
    refine Calls.mono (lives_any _) ?_
    rintro r w3 ⟨rfl, hb⟩
    have H3 := Aside0.mk (H2.out.next hb)
    clear hb
    go_wp2
    go_ret
    exact ⟨rfl, H3.out.below⟩
  | false =>
    by_cases hkb : 1000 < keys.length
    · have g1 : decide ((keys.length : Int) > 1000) = true := decide_eq_true (by omega)
      go_enter Try.func4, Try.ntmps4
      go_wp2_with fail
      refine Calls.mono (HBY.out _ H1.out) ?_
      rintro r w2 ⟨rfl, hb⟩
      have H2 := Aside0.mk (H1.out.next hb)
      clear hb
      go_wp2_with fail
      refine Calls.mono (lives_any _) ?_
      rintro r w3 ⟨rfl, hb⟩
      have H3 := Aside0.mk (H2.out.next hb)
      clear hb
      go_wp2
      go_ret
      exact ⟨rfl, H3.out.below⟩
    · have g1 : decide ((keys.length : Int) > 1000) = false := decide_eq_false (by omega)
      by_cases hlb : 60 < l.length
      · have g2 : decide ((l.length : Int) > 60) = true := decide_eq_true (by omega)
        go_enter Try.func4, Try.ntmps4
        go_wp2_with fail
        refine Calls.mono (HBY.out _ H1.out) ?_
        rintro r w2 ⟨rfl, hb⟩
        have H2 := Aside0.mk (H1.out.next hb)
        clear hb
        have d3 := cellOf H2.out.box 3
        go_wp2_with fail
        refine Calls.mono (lives_any _) ?_
        rintro r w3 ⟨rfl, hb⟩
        have H3 := Aside0.mk (H2.out.next hb)
        clear hb
        go_wp2
        go_ret
        exact ⟨rfl, H3.out.below⟩
      · have g2 : decide ((l.length : Int) > 60) = false := decide_eq_false (by omega)
        go_enter Try.func4, Try.ntmps4
        go_wp2_with fail
        refine Calls.mono (HBY.out _ H1.out) ?_
        rintro r w2 ⟨rfl, hb⟩
        have H2 := Aside0.mk (H1.out.next hb)
        clear hb
        have d0 := cellOf H2.out.box 0
        have d1 := cellOf H2.out.box 1
        have d2 := cellOf H2.out.box 2
        have d3 := cellOf H2.out.box 3
        go_wp2_with fail
        refine Calls.mono (HFD.out _ H2.out _ A1 c1 H2.out.hl HL1.out) ?_
        rintro r w3 ⟨rfl, hb⟩
        have H3 := Aside0.mk (H2.out.next hb)
        clear hb d0 d1 d2 d3
        obtain ⟨i30, hi30, hs30⟩ := info30_
        rcases find_in ks ws sz l keys with hf | ⟨k, hf, hk⟩
        · have HN := Aside0.mk (fun i hi => alone_none ks ws sz l keys i hi hf)
          rw [hf]
          clear hf
          go_wp2_with fail
          go_loopw [6] (fun i wr => ∃ k : Nat, k ≤ l.length ∧ i = .int .i64 k ∧ Aside0 (Below w3.heap.size w3 wr)) (fun i _ => l.length - (intOf i).toNat)
          case atStart => exact ⟨0, by omega, rfl, ⟨Below.refl _ _⟩⟩
          case round =>
            obtain ⟨k, hk, rfl, HI⟩ := hrel
            have HC := Aside0.mk (H3.out.next HI.out)
            have d3 := cellOf HC.out.box 3
            by_cases hlt : k < l.length
            · have g3 : decide ((k : Int) < (l.length : Int)) = true := decide_eq_true (by omega)
              have p0 : 0 ≤ (k : Int) := by omega
              go_wp2_with fail
              have r64 : IntKind.i64.wrap ((k : Int) + 1) = (k : Int) + 1 := by rw [IntKind.wrap_i64]; omega
              have hone : ((l.take (k + 1)).drop k).length = 1 := one_len l k hlt
              obtain ⟨AC, hAC⟩ : ∃ AC, AC = (if c1 = k then A1 else A1.map (·.add (k * 4))) := ⟨_, rfl⟩
              have hcut := cut_one hi30 hs30 A1 l.length c1 k hlt HL1.out
              rw [← hAC] at hcut
              have HRW := Aside0.mk (show Kd.C k30 wr AC ((l.take (k + 1)).drop k).length ((l.take (k + 1)).drop k) from by rw [hAC]; exact Kd.C_mid HC.out.hl (by omega) (by omega) HL1.out)
              have HFD1 := Aside0.mk (HFD.out _ (HC.out.next (pw_below_drewN (Below.refl _ _) 1)) _ AC (c1 - k) (Kd.C_below HRW.out (pw_below_drewN (Below.refl _ _) 1)) (by rw [hone]; have := HL1.out; omega))
              rw [HN.out k hlt, hone] at HFD1
              clear hAC hone
              refine region_float (BoxIs w.heap.size (.cells #[.slice A ks.length c, .slice B ws.length d, .int .i64 sz, .slice A1 l.length c1, .slice A0 em.length c0, .int .i64 ep, .string es, .slice A3 ea.length c3] 32 (0,0))) 10 [.float 0, .float 1, .float 2, .float 3, .float 4, .float 5, .float 6, .float 7, .float 8, .one 9] (by kernel_rfl) (by kernel_rfl) HC.out.box ?_
              refine Pl.wp_float rfl rfl (.pointer (some ⟨w.heap.size, 0, none⟩)) (fun U hU => by go_simp) (fun _ _ _ h => h) ?_
              (try go_simp)
              refine Pl.wp_float rfl rfl (.agg #[.slice A ks.length c, .slice B ws.length d, .int .i64 sz]) (fun U hU => by have f0 := cellOf hU 0; have f1 := cellOf hU 1; have f2 := cellOf hU 2; go_simp) (fun _ _ _ h => h) ?_
              (try go_simp)
              refine Pl.wp_float rfl rfl (.pointer (some ⟨w.heap.size, 3, none⟩)) (fun U hU => by go_simp) (fun _ _ _ h => h) ?_
              (try go_simp)
              refine Pl.wp_float rfl rfl (.slice A1 l.length c1) (fun U hU => by have f0 := cellOf hU 3; go_simp) (fun _ _ _ h => h) ?_
              (try go_simp)
              refine Pl.wp_float rfl rfl (.int .i64 (k : Int)) (fun U hU => by go_simp) (fun _ _ _ h => h) ?_
              (try go_simp)
              refine Pl.wp_float rfl rfl (.int .i64 (k : Int)) (fun U hU => by go_simp) (fun _ _ _ h => h) ?_
              (try go_simp)
              refine Pl.wp_float rfl rfl (.int .i64 ((k : Int) + 1)) (fun U hU => by go_simp) (fun _ _ _ h => h) ?_
              (try go_simp)
              refine Pl.wp_float rfl rfl (.slice AC 1 (c1 - k)) (fun U hU => by go_simp) (fun _ _ _ h => h) ?_
              (try go_simp)
              refine Pl.wp_float rfl rfl (.slice K keys.length kc) (fun U hU => by go_simp) (fun _ _ _ h => h) ?_
              (try go_simp)
              refine Pl.wp_one rfl rfl ?_
              go_simp
              refine Calls.mono HFD1.out ?_
              rintro r w5 ⟨rfl, hb⟩
              have HB5 := Aside0.mk (HI.out.trans (((pw_below_drewN (Below.refl _ _) 1).trans hb).mono HI.out.size))
              have HC5 := Aside0.mk (H3.out.next HB5.out)
              clear hb HFD1
              refine ⟨HC5.out.box, ?_⟩
              simp only [Pl.wp, List.drop]
              go_wp2
              go_roundw
              case rel => exact ⟨k + 1, by omega, by go_num, HB5⟩
              case measure => (simp [intOf]; omega)
            · have hkn : k = l.length := by omega
              have g3 : decide ((k : Int) < (l.length : Int)) = false := decide_eq_false (by omega)
              clear hkn
              go_wp2_with fail
              refine Calls.mono (lives_any _) ?_
              rintro r w3 ⟨rfl, hb⟩
              have H4 := Aside0.mk (HC.out.next hb)
              clear hb
              go_wp2
              go_ret
              exact ⟨rfl, H4.out.below⟩
        · have HO1 := Aside0.mk (alone_one ks ws sz l keys k hf)
          have HRS := Aside0.mk (fun i hi hne => alone_rest ks ws sz l keys k i hi hne hf)
          rw [hf]
          clear hf
          have g5 : decide ((k : Int) < 0) = false := decide_eq_false (by omega)
          have g6 : decide ((k : Int) ≥ (l.length : Int)) = false := decide_eq_false (by omega)
          have g6b : decide (l.length ≤ k) = false := decide_eq_false (by omega)
          have g6c : ¬ l.length ≤ k := by omega
          have d3 := cellOf H3.out.box 3
          go_wp2_with fail
          clear d3
          go_loopw [7, 8, 9] (fun i _ _ wr => ∃ j : Nat, j ≤ l.length ∧ i = .int .i64 j ∧ Aside0 (Below w3.heap.size w3 wr)) (fun i _ _ _ => l.length - (intOf i).toNat)
          case atStart => exact ⟨0, by omega, rfl, ⟨Below.refl _ _⟩⟩
          case round =>
            obtain ⟨j, hj, rfl, HI⟩ := hrel
            have HC := Aside0.mk (H3.out.next HI.out)
            have d3 := cellOf HC.out.box 3
            by_cases hlt : j < l.length
            · have g3 : decide ((j : Int) < (l.length : Int)) = true := decide_eq_true (by omega)
              have p0 : 0 ≤ (j : Int) := by omega
              have r64 : IntKind.i64.wrap ((j : Int) + 1) = (j : Int) + 1 := by rw [IntKind.wrap_i64]; omega
              by_cases hjk : j = k
              · have g7 : (j == k) = true := by simpa using hjk
                have g8 : ((j : Int) == (k : Int)) = true := by rw [hjk]; simp
                clear hjk
                go_wp2
                go_roundw
                case rel => exact ⟨j + 1, by omega, by go_num, HI⟩
                case measure => (simp [intOf]; omega)
              · have g7 : (j == k) = false := by simpa using hjk
                have g8 : ((j : Int) == (k : Int)) = false := by
                  rw [beq_eq_false_iff_ne]
                  omega
                have HRJ := Aside0.mk (HRS.out j hlt hjk)
                obtain ⟨AD, hAD⟩ : ∃ AD, AD = (if c1 = j + 1 then A1 else A1.map (·.add ((j + 1) * 4))) := ⟨_, rfl⟩
                have hcutT := cut_pre hi30 A1 l.length c1 j hlt HL1.out
                have hcutF := cut_post hi30 hs30 A1 l.length c1 j hlt HL1.out
                rw [← hAD] at hcutF
                have hlt1 : (l.take j).length = j := by rw [List.length_take]; omega
                have hlt2 : (l.drop (j + 1)).length = l.length - (j + 1) := List.length_drop
                obtain ⟨us1, R1, C1⟩ := raw_of (Kd.C_below (Kd.C_take HC.out.hl (m := j) (by omega)) (pw_below_drewN (Below.refl _ _) 1))
                obtain ⟨us2, R2, C2⟩ := raw_of (Kd.C_below (show Kd.C k30 wr AD (l.drop (j + 1)).length (l.drop (j + 1)) from by rw [hAD]; exact Kd.C_drop HC.out.hl (by omega) HL1.out) (pw_below_drewN (Below.refl _ _) 1))
                have HRR := Aside0.mk (And.intro R1 R2)
                have HLR := Aside0.mk (show (l.take j ++ l.drop (j + 1)).length ≤ 60 from by rw [List.length_append, hlt1, hlt2]; omega)
                have HLS := Aside0.mk (And.intro hlt1 hlt2)
                rw [hlt1] at C1
                rw [hlt2] at C2
                have HCC := Aside0.mk (And.intro C1 C2)
                clear hAD hjk R1 R2 C1 C2 hlt1 hlt2
                go_wp2_with fail
                refine region_float (BoxIs w.heap.size (.cells #[.slice A ks.length c, .slice B ws.length d, .int .i64 sz, .slice A1 l.length c1, .slice A0 em.length c0, .int .i64 ep, .string es, .slice A3 ea.length c3] 32 (0,0))) 11 [.float 0, .float 1, .float 2, .float 3, .float 5, .float 6, .float 7, .float 8, .float 9, .one 4, .one 10] (by kernel_rfl) (by kernel_rfl) HC.out.box ?_
                refine Pl.wp_float rfl rfl (.pointer (some ⟨w.heap.size, 3, none⟩)) (fun U hU => by go_simp) (fun _ _ _ h => h) ?_
                (try go_simp)
                refine Pl.wp_float rfl rfl (.slice A1 l.length c1) (fun U hU => by have f0 := cellOf hU 3; go_simp) (fun _ _ _ h => h) ?_
                (try go_simp)
                refine Pl.wp_float rfl rfl (.int .i64 (j : Int)) (fun U hU => by go_simp) (fun _ _ _ h => h) ?_
                (try go_simp)
                refine Pl.wp_float rfl rfl (.slice A1 j c1) (fun U hU => by go_simp) (fun _ _ _ h => h) ?_
                (try go_simp)
                refine Pl.wp_float rfl rfl (.pointer (some ⟨w.heap.size, 3, none⟩)) (fun U hU => by go_simp) (fun _ _ _ h => h) ?_
                (try go_simp)
                refine Pl.wp_float rfl rfl (.slice A1 l.length c1) (fun U hU => by have f0 := cellOf hU 3; go_simp) (fun _ _ _ h => h) ?_
                (try go_simp)
                refine Pl.wp_float rfl rfl (.int .i64 (j : Int)) (fun U hU => by go_simp) (fun _ _ _ h => h) ?_
                (try go_simp)
                refine Pl.wp_float rfl rfl (.int .i64 ((j : Int) + 1)) (fun U hU => by go_simp) (fun _ _ _ h => h) ?_
                (try go_simp)
                refine Pl.wp_float rfl rfl (.slice AD (l.length - (j + 1)) (c1 - (j + 1))) (fun U hU => by go_simp) (fun _ _ _ h => h) ?_
                (try go_simp)
                refine Pl.wp_one rfl rfl ?_
                refine wp_append_cells wr.heap.size _ _ 26 30 _ 4 72 rfl Try.underlying26 infoE rfl (by decide) (by decide) (.slice none 0 0) 0 [] (entsL (l.take j) us1) _ j c1 rfl rfl (World.ownsRow_nil _ _ _ _) HCC.out.1 (Nat.le_refl _) (by omega) ?_
                intro v1 w5 hown hg hat
                have HB5 := Aside0.mk (show Below wr.heap.size wr w5 from (pw_below_drewN (Below.refl _ _) 1).trans (own_grown (e := 30) (size := 4) (World.ownsRow_nil _ _ _ _) hg (Nat.le_refl _)))
                have HC5 := Aside0.mk (HC.out.next HB5.out)
                have HD5 := Aside0.mk (show Below wr.drew.heap.size wr.drew w5 from own_grown (e := 30) (size := 4) (World.ownsRow_nil _ _ _ _) hg (Nat.le_refl _))
                obtain ⟨vA, vL, vc, rfl, hvL⟩ := own_form hown
                refine ⟨HC5.out.box, ?_⟩
                refine Pl.wp_one rfl rfl ?_
                refine wp_append_cells wr.heap.size _ _ 26 30 _ 4 72 rfl Try.underlying26 infoE rfl (by decide) (by decide) (.slice vA vL vc) (0 + j) _ (entsL (l.drop (j + 1)) us2) _ (l.length - (j + 1)) (c1 - (j + 1)) rfl rfl hown (HCC.out.2.keep (w := wr.drew) HD5.out) HB5.out.size (by omega) ?_
                intro v2 w6 hown2 hg2 hat2
                have HB6 := Aside0.mk (show Below wr.heap.size wr w6 from HB5.out.trans (own_grown hown hg2 HB5.out.size))
                have HC6 := Aside0.mk (HC.out.next HB6.out)
                have HD6 := Aside0.mk (show Below wr.drew.heap.size wr.drew w6 from HD5.out.trans (own_grown hown hg2 HB5.out.size))
                have hrr := rest_reads (wr := wr.drew) (a := l.take j) (b := l.drop (j + 1)) HD6.out HRR.out.1 HRR.out.2 (by rw [HLS.out.1, HLS.out.2]; exact hown2) HLR.out
                clear hown hown2 hg hg2 hat hat2 hvL
                obtain ⟨A2, c2, rfl, hc2, hC2⟩ := hrr
                have HFR := Aside0.mk (HFD.out _ HC6.out _ A2 c2 hC2 hc2)
                rw [HRJ.out] at HFR
                generalize (l.take j ++ l.drop (j + 1)).length = nl at *
                clear hc2 hC2
                refine ⟨HC6.out.box, ?_⟩
                simp only [Pl.wp, List.drop]
                have d0 := cellOf HC6.out.box 0
                have d1 := cellOf HC6.out.box 1
                have d2 := cellOf HC6.out.box 2
                have HI6 := Aside0.mk (HI.out.trans (HB6.out.mono HI.out.size))
                by_cases hik : j < k
                · have g9 : decide ((j : Int) < (k : Int)) = true := decide_eq_true (by omega)
                  have r65 : IntKind.i64.wrap ((k : Int) - 1) = (k : Int) - 1 := by rw [IntKind.wrap_i64]; omega
                  have g10 : ((k : Int) - 1 != (k : Int) - 1) = false := by simp
                  rw [if_pos hik] at HFR
                  clear d3
                  go_wp2_with fail
                  refine Calls.mono HFR.out ?_
                  rintro r w7 ⟨rfl, hb⟩
                  have HI7 := Aside0.mk (HI6.out.trans (hb.mono HI6.out.size))
                  clear hb d0 d1 d2
                  go_wp2
                  go_roundw
                  case rel => exact ⟨j + 1, by omega, by go_num, HI7⟩
                  case measure => (simp [intOf]; omega)
                · have g9 : decide ((j : Int) < (k : Int)) = false := decide_eq_false (by omega)
                  have g10 : ((k : Int) != (k : Int)) = false := by simp
                  rw [if_neg hik] at HFR
                  clear d3
                  go_wp2_with fail
                  refine Calls.mono HFR.out ?_
                  rintro r w7 ⟨rfl, hb⟩
                  have HI7 := Aside0.mk (HI6.out.trans (hb.mono HI6.out.size))
                  clear hb d0 d1 d2
                  go_wp2
                  go_roundw
                  case rel => exact ⟨j + 1, by omega, by go_num, HI7⟩
                  case measure => (simp [intOf]; omega)
            · have hkn : j = l.length := by omega
              have g3 : decide ((j : Int) < (l.length : Int)) = false := decide_eq_false (by omega)
              clear hkn
              have p0 : 0 ≤ (k : Int) := by omega
              have r64 : IntKind.i64.wrap ((k : Int) + 1) = (k : Int) + 1 := by rw [IntKind.wrap_i64]; omega
              have hone : ((l.take (k + 1)).drop k).length = 1 := one_len l k hk
              obtain ⟨AC, hAC⟩ : ∃ AC, AC = (if c1 = k then A1 else A1.map (·.add (k * 4))) := ⟨_, rfl⟩
              have hcut := cut_one hi30 hs30 A1 l.length c1 k hk HL1.out
              rw [← hAC] at hcut
              have HRW := Aside0.mk (show Kd.C k30 wr AC ((l.take (k + 1)).drop k).length ((l.take (k + 1)).drop k) from by rw [hAC]; exact Kd.C_mid HC.out.hl (by omega) (by omega) HL1.out)
              have HFD1 := Aside0.mk (HFD.out _ (HC.out.next (pw_below_drewN (Below.refl _ _) 1)) _ AC (c1 - k) (Kd.C_below HRW.out (pw_below_drewN (Below.refl _ _) 1)) (by rw [hone]; have := HL1.out; omega))
              rw [HO1.out, hone] at HFD1
              clear hAC hone
              go_wp2_with fail
              refine region_float (BoxIs w.heap.size (.cells #[.slice A ks.length c, .slice B ws.length d, .int .i64 sz, .slice A1 l.length c1, .slice A0 em.length c0, .int .i64 ep, .string es, .slice A3 ea.length c3] 32 (0,0))) 10 [.float 0, .float 1, .float 2, .float 3, .float 4, .float 5, .float 6, .float 7, .float 8, .one 9] (by kernel_rfl) (by kernel_rfl) HC.out.box ?_
              refine Pl.wp_float rfl rfl (.pointer (some ⟨w.heap.size, 0, none⟩)) (fun U hU => by go_simp) (fun _ _ _ h => h) ?_
              (try go_simp)
              refine Pl.wp_float rfl rfl (.agg #[.slice A ks.length c, .slice B ws.length d, .int .i64 sz]) (fun U hU => by have f0 := cellOf hU 0; have f1 := cellOf hU 1; have f2 := cellOf hU 2; go_simp) (fun _ _ _ h => h) ?_
              (try go_simp)
              refine Pl.wp_float rfl rfl (.pointer (some ⟨w.heap.size, 3, none⟩)) (fun U hU => by go_simp) (fun _ _ _ h => h) ?_
              (try go_simp)
              refine Pl.wp_float rfl rfl (.slice A1 l.length c1) (fun U hU => by have f0 := cellOf hU 3; go_simp) (fun _ _ _ h => h) ?_
              (try go_simp)
              refine Pl.wp_float rfl rfl (.int .i64 (k : Int)) (fun U hU => by go_simp) (fun _ _ _ h => h) ?_
              (try go_simp)
              refine Pl.wp_float rfl rfl (.int .i64 (k : Int)) (fun U hU => by go_simp) (fun _ _ _ h => h) ?_
              (try go_simp)
              refine Pl.wp_float rfl rfl (.int .i64 ((k : Int) + 1)) (fun U hU => by go_simp) (fun _ _ _ h => h) ?_
              (try go_simp)
              refine Pl.wp_float rfl rfl (.slice AC 1 (c1 - k)) (fun U hU => by go_simp) (fun _ _ _ h => h) ?_
              (try go_simp)
              refine Pl.wp_float rfl rfl (.slice K keys.length kc) (fun U hU => by go_simp) (fun _ _ _ h => h) ?_
              (try go_simp)
              refine Pl.wp_one rfl rfl ?_
              go_simp
              refine Calls.mono HFD1.out ?_
              rintro r w5 ⟨rfl, hb⟩
              have HB5 := Aside0.mk (HI.out.trans (((pw_below_drewN (Below.refl _ _) 1).trans hb).mono HI.out.size))
              have HC5 := Aside0.mk (H3.out.next HB5.out)
              clear hb HFD1
              refine ⟨HC5.out.box, ?_⟩
              simp only [Pl.wp, List.drop]
              go_wp2_with fail
              refine Calls.mono (lives_any _) ?_
              rintro r w6 ⟨rfl, hb⟩
              have H4 := Aside0.mk (HC5.out.next hb)
              clear hb
              go_wp2
              go_ret
              exact ⟨rfl, H4.out.below⟩
end Go.Proofs.Ytdfmeclhpefmfaa.Own
