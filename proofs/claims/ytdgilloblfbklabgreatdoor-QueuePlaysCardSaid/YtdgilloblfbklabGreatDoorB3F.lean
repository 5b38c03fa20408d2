/-
  A book of bytes: each list is filled with its mark.
-/
import Derived.Test.YtdgilloblfbklabGreatDoorB3K
import Derived.BigRegion
import Derived.Deep.DeepCutAuto
set_option linter.unusedVariables false
set_option linter.unusedSimpArgs false
namespace Go.Proofs.YtdgilloblfbklabGreatDoor.Own
open Go.RowKit

/-- What a book's row shows of list k. -/
theorem Bk.at {W : World} {base b : Nat} {row : Value} {ps : List (Value × Value)} {F : Nat → Nat → Prop} (h : Bk W base b row ps F) {k : Nat} {p : Value × Value} (hp : ps[k]? = some p) :
    ∃ r cr, row = .slice (some ⟨r, 0, none⟩) ps.length cr ∧ r < W.heap.size ∧ ps.length ≤ cr ∧ W.cell? ⟨r, k * 3, none⟩ = some p.1 ∧ W.cell? ⟨r, k * 3 + 1, none⟩ = some p.2 ∧ W.cell? ⟨r, k * 3 + 2, none⟩ = some (.int .i64 ((k : Int) + 1)) := by
  have hlt : k < ps.length := (List.getElem?_eq_some_iff.1 hp).1
  have hr := h.hr
  obtain ⟨r, cr, rfl, _, hr2, hr3, _⟩ := own_some hr (by omega)
  obtain ⟨e1, e2, e3⟩ := flat3_at ps k p hp
  have c := hr.cells (g := r) rfl
  have c1 := c _ _ e1
  have c2 := c _ _ e2
  have c3 := c _ _ e3
  rw [add_plain] at c1 c2 c3
  exact ⟨r, cr, rfl, hr2, hr3, c1, c2, c3⟩
/-- The lists while they are filled: those ahead of k are full of marks. -/
def Fill (W : World) (base : Nat) (ps : List (Value × Value)) (ns : Nat → Nat) (F : Nat → Nat → Prop) (k : Nat) : Prop :=
  ∀ j p, ps[j]? = some p → p.2 = .slice none 0 0 ∧ (j < k → L2 W base (F j) p.1 (ns j) j) ∧ (k ≤ j → L1 W base (F j) p.1 (ns j))
theorem marks_take (xs : List Int) (m : Nat) (x : Int) (hm : m < xs.length) (h : xs.take m = List.replicate m x) : (xs.set m x).take (m + 1) = List.replicate (m + 1) x := by
  rw [List.replicate_succ', ← h, List.take_succ_eq_append_getElem (by rw [List.length_set]; exact hm), List.getElem_set_self, List.take_set_of_le (Nat.le_refl _)]
theorem Fill.foot {W W' : World} {base k : Nat} {ps : List (Value × Value)} {ns : Nat → Nat} {F : Nat → Nat → Prop} {G : Nat → Prop} (h : Fill W base ps ns F k) (hf : Foot G W W') (hne : ∀ j q, F j q → ¬ G q) : Fill W' base ps ns F k :=
  fun j p hp => ⟨(h j p hp).1, fun hj => ((h j p hp).2.1 hj).foot hf (hne j), fun hj => ((h j p hp).2.2 hj).foot hf (hne j)⟩
/-- One list more is full. -/
theorem Fill.next {W0 W1 : World} {base k : Nat} {ps : List (Value × Value)} {ns : Nat → Nat} {F : Nat → Nat → Prop} (h : Fill W0 base ps ns F k) (hf : Foot (F k) W0 W1) (hd : ∀ i j q, F i q → F j q → i = j) (h2 : ∀ p, ps[k]? = some p → L2 W1 base (F k) p.1 (ns k) k) : Fill W1 base ps ns F (k + 1) := by
  intro j p hp
  refine ⟨(h j p hp).1, fun hj => ?_, fun hj => ((h j p hp).2.2 (by omega)).foot hf (fun q hq hq' => by have := hd j k q hq hq'; omega)⟩
  rcases Nat.lt_or_ge j k with hlt | hge
  · exact ((h j p hp).2.1 hlt).foot hf (fun q hq hq' => by have := hd j k q hq hq'; omega)
  · obtain rfl : j = k := by omega
    exact h2 p hp
set_option maxRecDepth 100000 in
set_option maxHeartbeats 3200000 in
theorem fill_any (base b : Nat) (row : Value) (ps : List (Value × Value)) (ns : Nat → Nat) (F : Nat → Nat → Prop) (W : World) (h : Bk W base b row ps F) (hN : ps.length ≤ 1000000000) (hns : ∀ j, ns j ≤ 140737488355328) (h1 : Fill W base ps ns F 0) :
    Calls Tryz.prog 25 #[.pointer (some ⟨b, 0, none⟩)] W fun e w' => (∃ u, e = .returned u) ∧ Bk w' base b row ps F ∧ Fill w' base ps ns F ps.length ∧ Foot (fun q => ∃ j, F j q) W w' := by
  have H0 := aside' (And.intro h h1)
  have HNS := aside' hns
  clear h h1 hns
  go_enter Tryz.func25, Tryz.ntmps25
  go_wp2
  go_loopw [2] (fun i wr => ∃ k : Nat, k ≤ ps.length ∧ i = .int .i64 k ∧ Aside (Bk wr base b row ps F ∧ Fill wr base ps ns F k ∧ Foot (fun q => ∃ j, F j q) W wr)) (fun i _ => ps.length - (intOf i).toNat)
  case atStart => exact ⟨0, Nat.zero_le _, rfl, H0.out.1, H0.out.2, Foot.refl _ _⟩
  case round =>
    obtain ⟨k, hk, rfl, HI⟩ := hrel
    have hbc : wr.cell? ⟨b, 2, none⟩ = some row := cellOf HI.out.1.hb 2
    obtain ⟨Ar, Lr, cr0, hrow, HLr⟩ := own_form HI.out.1.hr
    have hLr := HLr.out
    subst hLr
    subst hrow
    by_cases hlt : k < ps.length
    · have g1 : decide ((k : Int) < (ps.length : Int)) = true := decide_eq_true (by omega)
      obtain ⟨p, hp⟩ : ∃ p, ps[k]? = some p := ⟨_, List.getElem?_eq_getElem hlt⟩
      obtain ⟨r, cr, hr, hrl, hcr, e1, e2, e3⟩ := HI.out.1.at hp
      injection hr with hr1 hr2 hr3
      subst hr1
      obtain ⟨xs0, hown0, hF0⟩ := (HI.out.2.1 k p hp).2.2 (Nat.le_refl _)
      have hlg := (HI.out.2.1 k p hp).1
      obtain ⟨v, lg⟩ := p
      simp only at e1 e2 hown0 hF0 hlg
      subst hlg
      obtain ⟨A, n, c, rfl, HLn⟩ := hown0.form
      have hn := HLn.out
      subst hn
      have hnb := HNS.out k
      have HP := aside' hp
      have HF0 := aside' hF0
      have i0 : (0 : Int) ≤ (k : Int) := by omega
      have i1 : (k : Int) < (ps.length : Int) := by omega
      have HOWN := aside' (hown0.alloc (.cells #[.slice A (ns k) c, .slice none 0 0, .int .i64 ((k : Int) + 1)] 113))
      have HBX := aside' (heap_alloc_new wr (.cells #[.slice A (ns k) c, .slice none 0 0, .int .i64 ((k : Int) + 1)] 113))
      have hxl0 : xs0.length = ns k := hown0.1
      have HXL := aside' hxl0
      have HQ := aside' (show ¬ F k wr.heap.size from fun e => by have := (HI.out.1.fl k _ e).2.1; omega)
      have hal := (Foot.refl (fun _ => False) wr).alloc (.cells #[.slice A (ns k) c, .slice none 0 0, .int .i64 ((k : Int) + 1)] 113)
      have HB0 := aside' (And.intro (HI.out.1.foot hal (fun h => h) (fun _ _ h => h)) (And.intro (HI.out.2.1.foot hal (fun _ _ _ h => h)) (HI.out.2.2.alloc (.cells #[.slice A (ns k) c, .slice none 0 0, .int .i64 ((k : Int) + 1)] 113))))
      clear hr2 hr3 hown0 hF0 hp hxl0 HLn hal
      generalize hns : ns k = n at *
      go_upto_region 4 with fail
      generalize wr.alloc (.cells #[.slice A n c, .slice none 0 0, .int .i64 ((k : Int) + 1)] 113) = W0 at *
      generalize wr.heap.size = q at *
      clear e1 e2 e3 hbc
      go_wp2_with fail
      go_loopw [4] (fun kk ws => ∃ m : Nat, m ≤ n ∧ kk = .int .i64 m ∧ Aside (∃ xs : List Int, FRow ws base (.slice A n c) n xs ∧ xs.length = n ∧ xs.take m = List.replicate m (mark k) ∧ Foot (F k) W0 ws)) (fun kk _ => n - (intOf kk).toNat)
      case atStart => exact ⟨0, Nat.zero_le _, rfl, xs0, HOWN.out, HXL.out, rfl, Foot.refl _ _⟩
      case round =>
        obtain ⟨m, hm, rfl, HM⟩ := hrel
        obtain ⟨xs, hown, hxl, htk, hft⟩ := HM.out
        have hbx := hft.blk HBX.out HQ.out
        have b0 : wr.cell? ⟨q, 0, none⟩ = some (.slice A n c) := cellOf hbx 0
        have b2 : wr.cell? ⟨q, 2, none⟩ = some (.int .i64 ((k : Int) + 1)) := cellOf hbx 2
        have HX := aside' (And.intro hown (And.intro hxl (And.intro htk hft)))
        clear hbx HM
        by_cases hlt2 : m < n
        · have g2 : decide ((m : Int) < (n : Int)) = true := decide_eq_true (by omega)
          obtain ⟨g, c', hv, hg1, hg2, hg3, hg4⟩ := hown.some_ (by omega)
          injection hv with hv1 hv2 hv3
          subst hv1
          have d0 : wr.drew.cell? ⟨q, 0, none⟩ = some (.slice (some ⟨g, 0, none⟩) n c) := b0
          have d2 : wr.drew.cell? ⟨q, 2, none⟩ = some (.int .i64 ((k : Int) + 1)) := b2
          have dg : wr.drew.cell? ⟨g, m, none⟩ = some (.int .u8 (xs.getD m 0)) := hown.at_ m hlt2
          have fg : wr.drew.frozen? ⟨g, m, none⟩ = false := hown.frozen m
          have j0 : (0 : Int) ≤ (m : Int) := by omega
          have j1 : (m : Int) < (n : Int) := by omega
          have HNX := aside' (And.intro (hown.put m (mark k)) (And.intro (marks_take xs m (mark k) (by omega) htk) (hft.setCell (p := ⟨g, m, none⟩) (.inl (HF0.out g rfl)) (.int .u8 (mark k)))))
          have HMK := aside' (fun (V : World) => mark_any k (by omega) V)
          generalize xs.getD m 0 = y at *
          have hmb := mark_bd k
          generalize mark k = mk at *
          clear hown htk hft hv2 hv3
          go_wp2_with fail
          go_region_law ((go_simp; go_at_call 118; refine Calls.mono (HMK.out _) ?_; rintro e w' ⟨rfl, rfl⟩))
          all_goals go_wp2
          all_goals go_roundw
          all_goals first
            | exact ⟨m + 1, by omega, by go_num, xs.set m mk, HNX.out.1, (by rw [List.length_set]; exact HX.out.2.1), HNX.out.2.1, HNX.out.2.2.drewN 1⟩
            | (simp [intOf]; omega)
        · obtain rfl : m = n := by omega
          have g2 : decide ((m : Int) < (m : Int)) = false := decide_eq_false (by omega)
          have hL2 : L2 wr base (F k) (.slice A m c) (ns k) k := ⟨by rw [hns, ← htk, List.take_of_length_le (by omega)]; exact hown, HF0.out⟩
          have hfd := HI.out.1.fl
          have HFIN := aside' (And.intro (HB0.out.1.foot hft (fun e => (hfd k b e).2.2.1 rfl) (fun q' hq' e => (hfd k q' e).2.2.2 hq')) (And.intro (HB0.out.2.1.next hft HI.out.1.fd (fun p' hp' => by rw [HP.out] at hp'; injection hp' with hp'; rw [← hp']; exact hL2)) (HB0.out.2.2.trans hft (fun i hi => .inl ⟨k, hi⟩))))
          clear hown htk hft hL2 hfd
          go_wp2
          go_roundw
          case rel => exact ⟨k + 1, by omega, by go_num, HFIN.out⟩
          case measure => (simp [intOf]; omega)
    · obtain rfl : k = ps.length := by omega
      have g1 : decide ((ps.length : Int) < (ps.length : Int)) = false := decide_eq_false (by omega)
      go_wp2
      go_end0
      exact ⟨⟨_, rfl⟩, HI.out⟩
end Go.Proofs.YtdgilloblfbklabGreatDoor.Own
