/-
  A book keeps records: each one's bytes, and the list.
-/
import Derived.Test.YtdgilloblfbklaaGreatDoorB2W
import Derived.Test.YtdgilloblfbklaaGreatDoorRowsAt
set_option linter.unusedVariables false
set_option linter.unusedSimpArgs false
namespace Go.Proofs.YtdgilloblfbklaaGreatDoor
open Go.RowKit

/-- The blocks of rows. -/
def RB (vs : List Value) (out : Value) (q : Nat) : Prop := out.ownBlock = some q ∨ ∃ (j n' c' : Nat), vs[j]? = some (.slice (some ⟨q, 0, none⟩) n' c')
theorem RowsV.foot {W W' : World} {base : Nat} {out : Value} {rows : List (List Int)} {vs : List Value} {G : Nat → Prop} (h : RowsV W base out rows vs) (hf : Foot G W W') (hG : ∀ q, RB vs out q → ¬ G q) : RowsV W' base out rows vs := by
  obtain ⟨h1, h2, h3⟩ := h
  refine ⟨h1, own_foot h2 hf (fun k hk => hG k (.inl hk)), fun i hi => ?_⟩
  obtain ⟨g, c, e1, e2, e3, e4⟩ := (h3 i hi).ex
  exact ⟨g, c, e1, own_foot e2 hf (fun k hk => hG k (.inr ⟨i, (rows.getD i []).length, c, by simp only [Value.ownBlock, Option.some.injEq] at hk; subst hk; exact e1⟩)), e3, e4⟩
theorem RowsV.rb {W : World} {base : Nat} {out : Value} {rows : List (List Int)} {vs : List Value} (h : RowsV W base out rows vs) : ∀ q, RB vs out q → base ≤ q ∧ q < W.heap.size := by
  obtain ⟨h1, h2, h3⟩ := h
  rintro q (hq | ⟨j, n', c', hq⟩)
  · exact own_ltb h2 q hq
  · have hj : j < rows.length := by rw [← h1]; exact (List.getElem?_eq_some_iff.1 hq).1
    obtain ⟨g, c, e1, e2, e3, e4⟩ := (h3 j hj).ex
    rw [e1] at hq
    injection hq with hq
    injection hq with hq _ _
    injection hq with hq
    injection hq with hq
    subst hq
    exact own_ltb e2 g rfl
set_option maxRecDepth 100000 in
set_option maxHeartbeats 1600000 in
theorem records_keep {S0 base b N s : Nat} {W : World} {K : Nat → Prop} {A : Option Addr} {n c : Nat} {rows : List (List Int)} {vs : List Value} (h : HBk S0 W base b N K) (hN : N ≤ 1000000) (hn : n ≤ 1000000) (hb2 : base ≤ s) (hv : RowsV W s (.slice A n c) rows vs) (hnl : rows.length = n) (hK : ∀ q, K q → ¬ RB vs (.slice A n c) q) (ho : ∀ q, RB vs (.slice A n c) q → q < S0) (hl : ∀ j, j < n → (rows.getD j []).length ≤ 140737488355200) :
    Calls Tryz.prog 10 #[.pointer (some ⟨b, 0, none⟩), .slice A n c] W fun e w' => (∃ u, e = .returned u) ∧ HBk S0 w' base b (N + n + 1) (fun q => K q ∨ RB vs (.slice A n c) q) ∧ Foot (fun q => S0 ≤ q) W w' := by
  have HH := aside' (And.intro h (And.intro hv (And.intro hK (And.intro ho hl))))
  clear h hv hK ho hl
  go_enter Tryz.func10, Tryz.ntmps10
  go_wp2
  go_loopw [4] (fun i wr => ∃ k : Nat, k ≤ n ∧ i = .int .i64 k ∧ Aside (HBk S0 wr base b (N + k) (fun q => K q ∨ ∃ (j n' c' : Nat), j < k ∧ vs[j]? = some (.slice (some ⟨q, 0, none⟩) n' c')) ∧ Foot (fun q => S0 ≤ q) W wr)) (fun i _ => n - (intOf i).toNat)
  case atStart => exact ⟨0, Nat.zero_le _, rfl, HH.out.1.mono (fun q hq => .inl hq), Foot.refl _ _⟩
  case round =>
    obtain ⟨k, hk, rfl, HI⟩ := hrel
    have hvr := HH.out.2.1.foot HI.out.2 (fun q hq hq' => by have := HH.out.2.2.2.1 q hq; omega)
    by_cases hlt : k < n
    · have g1 : decide ((k : Int) < (n : Int)) = true := decide_eq_true (by omega)
      obtain ⟨g, d, e1, e2, e3, e4⟩ := (hvr.2.2 k (by omega)).ex
      have hvo := hvr.2.1
      rw [hnl] at hvo
      obtain ⟨g0, c0, hv0, _⟩ := own_some hvo (by omega)
      injection hv0 with hv1 _ hv3
      subst hv1
      subst hv3
      obtain ⟨u, hu, cu⟩ := own_atV hvo k hlt
      rw [e1] at hu
      injection hu with hu
      subst hu
      have i0 : (0 : Int) ≤ (k : Int) := by omega
      have i1 : (k : Int) < (n : Int) := by omega
      have HKP := aside' (HI.out.1.keep (A := some ⟨g, 0, none⟩) (c := d) (base2 := s) (xs := rows.getD k []) (by omega) hb2 e2 (HH.out.2.2.2.2 k hlt) (fun q hq => by
        simp only [Value.ownBlock, Option.some.injEq] at hq
        subst hq
        have hrb : RB vs (.slice (some ⟨g0, 0, none⟩) n c) g := .inr ⟨k, _, _, e1⟩
        refine ⟨?_, HH.out.2.2.2.1 g hrb⟩
        rintro (hq | ⟨j, n', c', hj, hq⟩)
        · exact HH.out.2.2.1 g hq hrb
        · exact e4 j hj g n' c' hq rfl))
      have HE := aside' e1
      generalize (rows.getD k []).length = m at *
      clear e1 e2 e3 e4 hvr hvo
      go_wp2_with fail
      refine Calls.mono HKP.out ?_
      rintro e w5 ⟨⟨u, rfl⟩, hb5, hf5⟩
      have HFIN := aside' (And.intro (hb5.mono (K' := fun q => K q ∨ ∃ (j n' c' : Nat), j < k + 1 ∧ vs[j]? = some (.slice (some ⟨q, 0, none⟩) n' c')) (by
        rintro q ((hq | ⟨j, n', c', hj, hq⟩) | hq)
        · exact .inl hq
        · exact .inr ⟨j, n', c', by omega, hq⟩
        · simp only [Value.ownBlock, Option.some.injEq] at hq
          subst hq
          exact .inr ⟨k, _, _, by omega, HE.out⟩)) (HI.out.2.trans hf5 (fun q hq => .inl hq)))
      clear hb5 hf5 HKP
      go_wp2
      go_roundw
      case rel => exact ⟨k + 1, by omega, by go_num, HFIN.out⟩
      case measure => (simp [intOf]; omega)
    · obtain rfl : k = n := by omega
      have g1 : decide ((k : Int) < (k : Int)) = false := decide_eq_false (by omega)
      have hvo := hvr.2.1
      rw [hnl] at hvo
      have HKP := aside' (HI.out.1.keepB (base2 := s) (by omega) hb2 hvo (by omega) (fun q hq => by
        have hrb : RB vs (.slice A k c) q := .inl hq
        refine ⟨?_, HH.out.2.2.2.1 q hrb⟩
        rintro (hq' | ⟨j, n', c', hj, hq'⟩)
        · exact HH.out.2.2.1 q hq' hrb
        · obtain ⟨g, d, e1, e2, e3, e4⟩ := (hvr.2.2 j (by omega)).ex
          rw [e1] at hq'
          injection hq' with hq'
          injection hq' with hq' _ _
          injection hq' with hq'
          injection hq' with hq'
          subst hq'
          exact e3 hq))
      clear hvr hvo
      go_wp2_with fail
      refine Calls.mono HKP.out ?_
      rintro e w5 ⟨⟨u, rfl⟩, hb5, hf5⟩
      have HFIN := aside' (And.intro (hb5.mono (K' := fun q => K q ∨ RB vs (.slice A k c) q) (by
        rintro q ((hq | ⟨j, n', c', hj, hq⟩) | hq)
        · exact .inl hq
        · exact .inr (.inr ⟨j, n', c', hq⟩)
        · exact .inr (.inl hq))) (HI.out.2.trans hf5 (fun q hq => .inl hq)))
      clear hb5 hf5 HKP
      go_wp2
      go_end0
      exact ⟨⟨_, rfl⟩, HFIN.out⟩
end Go.Proofs.YtdgilloblfbklaaGreatDoor
