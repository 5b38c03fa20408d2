/-
  A book of blobs: each list is filled with its marks, which are blobs of one byte in blocks of their own.
-/
import Derived.Test.YtdgilloblfbklaaGreatDoorB2F
set_option linter.unusedVariables false
set_option linter.unusedSimpArgs false
namespace Go.Proofs.YtdgilloblfbklaaGreatDoor
open Go.RowKit

/-- A mark: a slice of one byte, in a block from lo on. -/
def MarkB (W : World) (lo : Nat) (u : Value) (mk : Int) : Prop := ∃ g, u = .slice (some ⟨g, 0, none⟩) 1 1 ∧ W.heap[g]? = some (.cells #[.int .u8 mk] 5 (0, 0)) ∧ lo ≤ g
theorem MarkB.foot {W W' : World} {lo : Nat} {u : Value} {mk : Int} {G : Nat → Prop} (h : MarkB W lo u mk) (hf : Foot G W W') (hG : ∀ q, lo ≤ q → ¬ G q) : MarkB W' lo u mk := by
  obtain ⟨g, h1, h2, h3⟩ := h
  exact ⟨g, h1, hf.blk h2 (hG g h3), h3⟩
theorem MarkB.later {W W' : World} {lo : Nat} {u : Value} {mk : Int} (h : MarkB W lo u mk) (hb : Below W.heap.size W W') : MarkB W' lo u mk := h.foot (Foot.ofBelow hb (fun _ => False)) (fun _ _ h => h)
theorem markB_any (i : Nat) (hi : i ≤ 1000000000000) (W : World) : Calls Tryz.prog 116 #[.int .i64 (i : Int)] W fun e w' => ∃ g, e = .returned (.slice (some ⟨g, 0, none⟩) 1 1) ∧ w'.heap[g]? = some (.cells #[.int .u8 (mark i)] 5 (0, 0)) ∧ g = W.heap.size ∧ Below W.heap.size W w' := by
  obtain ⟨r, hr⟩ : ∃ r, r = i % 250 := ⟨_, rfl⟩
  have hb : r < 250 := by omega
  have m1 : (i : Int) % 250 = (r : Int) := by omega
  have m2 : (i : Int).tmod 250 = (r : Int) := by rw [Int.tmod_eq_emod_of_nonneg (by omega)]; exact m1
  have HM := aside' (show mark i = 1 + (r : Int) by rw [mark, hr])
  clear hr
  go_enter Tryz.func116, Tryz.ntmps116
  go_wp2
  go_ret
  exact ⟨_, rfl, by rw [HM.out]; exact heap_alloc_new _ _, rfl, (Below.refl _ _).alloc (Nat.le_refl _) _⟩
theorem isB_any (i : Nat) (hi : i ≤ 1000000000000) (g : Nat) (W : World) (hc : W.cell? ⟨g, 0, none⟩ = some (.int .u8 (mark i))) : Calls Tryz.prog 146 #[.slice (some ⟨g, 0, none⟩) 1 1, .int .i64 (i : Int)] W fun e w' => e = .returned (.bool true) ∧ w' = W := by
  obtain ⟨r, hr⟩ : ∃ r, r = i % 250 := ⟨_, rfl⟩
  have hb : r < 250 := by omega
  have m1 : (i : Int) % 250 = (r : Int) := by omega
  have m2 : (i : Int).tmod 250 = (r : Int) := by rw [Int.tmod_eq_emod_of_nonneg (by omega)]; exact m1
  have HM : mark i = 1 + (r : Int) := by rw [mark, hr]
  rw [HM] at hc
  clear hr HM
  go_enter Tryz.func146, Tryz.ntmps146
  go_wp2
  go_ret
  exact ⟨rfl, rfl⟩
/-- A list of blobs that is a row of the law's own. -/
def L1b (W : World) (base : Nat) (F : Nat → Prop) (lo : Nat) (v : Value) (n : Nat) : Prop := ∃ vs : List Value, W.ownsRow base 22 1 v n vs ∧ ∀ k, v.ownBlock = some k → F k ∧ k < lo
/-- It is full of marks. -/
def L2b (W : World) (base : Nat) (F : Nat → Prop) (lo : Nat) (v : Value) (n : Nat) (i : Nat) : Prop := ∃ vs : List Value, W.ownsRow base 22 1 v n vs ∧ (∀ u ∈ vs, MarkB W lo u (mark i)) ∧ ∀ k, v.ownBlock = some k → F k ∧ k < lo
section
variable {W W' : World} {base n i lo : Nat} {F G : Nat → Prop} {v : Value}
theorem L1b.foot (h : L1b W base F lo v n) (hf : Foot G W W') (hne : ∀ k, F k → ¬ G k) : L1b W' base F lo v n := by
  obtain ⟨vs, h1, h2⟩ := h
  exact ⟨vs, own_foot h1 hf (fun k hk => hne k (h2 k hk).1), h2⟩
theorem L2b.foot (h : L2b W base F lo v n i) (hf : Foot G W W') (hne : ∀ k, F k → ¬ G k) (hlo : ∀ q, lo ≤ q → ¬ G q) : L2b W' base F lo v n i := by
  obtain ⟨vs, h1, h2, h3⟩ := h
  exact ⟨vs, own_foot h1 hf (fun k hk => hne k (h3 k hk).1), fun u hu => (h2 u hu).foot hf hlo, h3⟩
end
def FillB (W : World) (base : Nat) (ps : List (Value × Value)) (no ns : Nat → Nat) (F : Nat → Nat → Prop) (lo k : Nat) : Prop :=
  ∀ j p, ps[j]? = some p → p.2 = .slice none 0 0 ∧ (j < k → L2b W base (F j) lo p.1 (ns j) (no j)) ∧ (k ≤ j → L1b W base (F j) lo p.1 (ns j))
theorem FillB.foot {W W' : World} {base k lo : Nat} {ps : List (Value × Value)} {no ns : Nat → Nat} {F : Nat → Nat → Prop} {G : Nat → Prop} (h : FillB W base ps no ns F lo k) (hf : Foot G W W') (hne : ∀ j q, F j q → ¬ G q) (hlo : ∀ q, lo ≤ q → ¬ G q) : FillB W' base ps no ns F lo k :=
  fun j p hp => ⟨(h j p hp).1, fun hj => ((h j p hp).2.1 hj).foot hf (hne j) hlo, fun hj => ((h j p hp).2.2 hj).foot hf (hne j)⟩
theorem FillB.next {W0 W1 : World} {base k lo : Nat} {ps : List (Value × Value)} {no ns : Nat → Nat} {F : Nat → Nat → Prop} (h : FillB W0 base ps no ns F lo k) (hf : Foot (fun q => F k q ∧ q < lo) W0 W1) (hd : ∀ i j q, F i q → F j q → i = j) (h2 : ∀ p, ps[k]? = some p → L2b W1 base (F k) lo p.1 (ns k) (no k)) : FillB W1 base ps no ns F lo (k + 1) := by
  intro j p hp
  have hlo : ∀ q, lo ≤ q → ¬ (F k q ∧ q < lo) := fun q hq hq' => by omega
  refine ⟨(h j p hp).1, fun hj => ?_, fun hj => ((h j p hp).2.2 (by omega)).foot hf (fun q hq hq' => by have := hd j k q hq hq'.1; omega)⟩
  rcases Nat.lt_or_ge j k with hlt | hge
  · exact ((h j p hp).2.1 hlt).foot hf (fun q hq hq' => by have := hd j k q hq hq'.1; omega) hlo
  · obtain rfl : j = k := by omega
    exact h2 p hp
theorem own_atV {w : World} {base n g c : Nat} {e : TypeId} {xs : List Value} (h : w.ownsRow base e 1 (.slice (some ⟨g, 0, none⟩) n c) n xs) (j : Nat) (hj : j < n) : ∃ u, xs[j]? = some u ∧ w.cell? ⟨g, j, none⟩ = some u := by
  have hl : xs.length = n := by have := h.1; simpa using this
  exact ⟨xs[j], List.getElem?_eq_getElem (by omega), (h.cellAt j (by omega)).trans (List.getElem?_eq_getElem (by omega))⟩
set_option maxRecDepth 100000 in
set_option maxHeartbeats 3200000 in
theorem fillB_any (base b : Nat) (cs : Array Value) (row : Value) (ps : List (Value × Value)) (no ns : Nat → Nat) (F : Nat → Nat → Prop) (lo : Nat) (W : World) (h : Bk 5 81 W base b cs row ps no F) (hN : ps.length ≤ 1000000000) (hns : ∀ j, ns j ≤ 140737488355328) (h1 : FillB W base ps no ns F lo 0) (hlo : lo ≤ W.heap.size) :
    Calls Tryz.prog 22 #[.pointer (some ⟨b, 0, none⟩)] W fun e w' => (∃ u, e = .returned u) ∧ Bk 5 81 w' base b cs row ps no F ∧ FillB w' base ps no ns F lo ps.length ∧ Foot (fun q => ∃ j, F j q) W w' := by
  have H0 := aside' (And.intro h (And.intro h1 hlo))
  have HNS := aside' hns
  have HNB := aside' h.nb
  clear h h1 hns hlo
  go_enter Tryz.func22, Tryz.ntmps22
  go_wp2
  go_loopw [2] (fun i wr => ∃ k : Nat, k ≤ ps.length ∧ i = .int .i64 k ∧ Aside (Bk 5 81 wr base b cs row ps no F ∧ FillB wr base ps no ns F lo k ∧ Foot (fun q => ∃ j, F j q) W wr)) (fun i _ => ps.length - (intOf i).toNat)
  case atStart => exact ⟨0, Nat.zero_le _, rfl, H0.out.1, H0.out.2.1, Foot.refl _ _⟩
  case round =>
    obtain ⟨k, hk, rfl, HI⟩ := hrel
    have hbc : wr.cell? ⟨b, 5, none⟩ = some row := (cellOf HI.out.1.hb 5).trans HI.out.1.hx
    obtain ⟨Ar, Lr, cr0, hrow, HLr⟩ := own_form HI.out.1.hr
    have hLr := HLr.out
    subst hLr
    subst hrow
    by_cases hlt : k < ps.length
    · have g1 : decide ((k : Int) < (ps.length : Int)) = true := decide_eq_true (by omega)
      obtain ⟨p, hp⟩ : ∃ p, ps[k]? = some p := ⟨_, List.getElem?_eq_getElem hlt⟩
      obtain ⟨r, cr, hr, hrl, hcr, e1, e2, e3⟩ := HI.out.1.at hp
      injection hr with hr1 hr2 hr3
      subst hr1
      obtain ⟨xs0, hown0, hF0⟩ := (HI.out.2.1 k p hp).2.2 (Nat.le_refl _)
      have hlg := (HI.out.2.1 k p hp).1
      obtain ⟨v, lg⟩ := p
      simp only at e1 e2 hown0 hF0 hlg
      subst hlg
      obtain ⟨A, n, c, rfl, HLn⟩ := own_form hown0
      have hn := HLn.out
      subst hn
      have hnb := HNS.out k
      have HP := aside' hp
      have HF0 := aside' hF0
      have i0 : (0 : Int) ≤ (k : Int) := by omega
      have i1 : (k : Int) < (ps.length : Int) := by omega
      have HOWN := aside' (hown0.alloc (.cells #[.slice A (ns k) c, .slice none 0 0, .int .i64 ((no k : Nat) : Int)] 81))
      have HBX := aside' (heap_alloc_new wr (.cells #[.slice A (ns k) c, .slice none 0 0, .int .i64 ((no k : Nat) : Int)] 81))
      have HQ := aside' (show ¬ (F k wr.heap.size ∧ wr.heap.size < lo) from fun e => by have := (HI.out.1.fl k _ e.1).2.1; omega)
      have HSZ := aside' (show lo ≤ wr.heap.size from Nat.le_trans H0.out.2.2 HI.out.2.2.size)
      have hal := (Foot.refl (fun _ => False) wr).alloc (.cells #[.slice A (ns k) c, .slice none 0 0, .int .i64 ((no k : Nat) : Int)] 81)
      have HB0 := aside' (And.intro (HI.out.1.foot hal (fun h => h) (fun _ _ h => h)) (And.intro (HI.out.2.1.foot hal (fun _ _ _ h => h) (fun _ _ h => h)) (And.intro (HI.out.2.2.alloc (.cells #[.slice A (ns k) c, .slice none 0 0, .int .i64 ((no k : Nat) : Int)] 81)) hal.size)))
      clear hr2 hr3 hown0 hF0 hp HLn hal
      generalize hns : ns k = n at *
      go_upto_region 4 with fail
      generalize wr.alloc (.cells #[.slice A n c, .slice none 0 0, .int .i64 ((no k : Nat) : Int)] 81) = W0 at *
      generalize wr.heap.size = q at *
      clear e1 e2 e3 hbc
      go_wp2_with fail
      go_loopw [4] (fun kk ws => ∃ m : Nat, m ≤ n ∧ kk = .int .i64 m ∧ Aside (∃ xs : List Value, ws.ownsRow base 22 1 (.slice A n c) n xs ∧ (∀ j u, j < m → xs[j]? = some u → MarkB ws lo u (mark (no k))) ∧ Foot (fun q => F k q ∧ q < lo) W0 ws)) (fun kk _ => n - (intOf kk).toNat)
      case atStart => exact ⟨0, Nat.zero_le _, rfl, xs0, HOWN.out, fun j u hj => absurd hj (Nat.not_lt_zero j), Foot.refl _ _⟩
      case round =>
        obtain ⟨m, hm, rfl, HM⟩ := hrel
        obtain ⟨xs, hown, htk, hft⟩ := HM.out
        have hbx := hft.blk HBX.out HQ.out
        have b0 : wr.cell? ⟨q, 0, none⟩ = some (.slice A n c) := cellOf hbx 0
        have b2 : wr.cell? ⟨q, 2, none⟩ = some (.int .i64 ((no k : Nat) : Int)) := cellOf hbx 2
        have hql : q < wr.heap.size := (Array.getElem?_eq_some_iff.1 hbx).1
        have HX := aside' (And.intro hown (And.intro htk hft))
        clear hbx HM
        by_cases hlt2 : m < n
        · have g2 : decide ((m : Int) < (n : Int)) = true := decide_eq_true (by omega)
          obtain ⟨g, c', hv, hg1, hg2, hg3, hg4⟩ := own_some hown (by omega)
          injection hv with hv1 hv2 hv3
          subst hv1
          have d0 : wr.drew.cell? ⟨q, 0, none⟩ = some (.slice (some ⟨g, 0, none⟩) n c) := b0
          have d2 : wr.drew.cell? ⟨q, 2, none⟩ = some (.int .i64 ((no k : Nat) : Int)) := b2
          obtain ⟨y, hy, cy⟩ := own_atV hown m hlt2
          have fg : wr.frozen? ⟨g, m, none⟩ = false := hown.frozenAt m
          have j0 : (0 : Int) ≤ (m : Int) := by omega
          have j1 : (m : Int) < (n : Int) := by omega
          have HMK := aside' (markB_any (no k) (HNB.out k) wr.drew)
          have HGF := aside' (HF0.out g rfl)
          clear hown htk hft hv2 hv3
          go_wp2_with fail
          refine region_float (fun U => U.cell? ⟨q, 0, none⟩ = some (.slice (some ⟨g, 0, none⟩) n c) ∧ U.cell? ⟨q, 2, none⟩ = some (.int .i64 ((no k : Nat) : Int))) 7 [.float 0, .float 1, .float 2, .float 3, .float 4, .one 5, .float 6] (by kernel_rfl) (by kernel_rfl) ⟨d0, d2⟩ ?_
          refine Pl.wp_float rfl rfl (.pointer (some ⟨q, 0, none⟩)) (fun U hU => by (have u0 := hU.1; have u1 := hU.2; go_simp)) (fun _ _ _ h => h) ?_
          (try go_simp)
          refine Pl.wp_float rfl rfl (.slice (some ⟨g, 0, none⟩) n c) (fun U hU => by (have u0 := hU.1; have u1 := hU.2; go_simp)) (fun _ _ _ h => h) ?_
          (try go_simp)
          refine Pl.wp_float rfl rfl (.int .i64 m) (fun U hU => by (have u0 := hU.1; have u1 := hU.2; go_simp)) (fun _ _ _ h => h) ?_
          (try go_simp)
          refine Pl.wp_float rfl rfl (.pointer (some ⟨q, 2, none⟩)) (fun U hU => by (have u0 := hU.1; have u1 := hU.2; go_simp)) (fun _ _ _ h => h) ?_
          (try go_simp)
          refine Pl.wp_float rfl rfl (.int .i64 ((no k : Nat) : Int)) (fun U hU => by (have u0 := hU.1; have u1 := hU.2; go_simp)) (fun _ _ _ h => h) ?_
          (try go_simp)
          refine Pl.wp_one rfl rfl ?_
          go_simp
          refine Calls.mono HMK.out ?_
          rintro e w5 ⟨gm, rfl, hgm, hgs, hb5⟩
          have HGS := aside' hgs
          clear hgs
          have hb5' : Below wr.heap.size wr w5 := (Below.refl _ _).drew.trans hb5
          have s0 : w5.cell? ⟨q, 0, none⟩ = some (.slice (some ⟨g, 0, none⟩) n c) := (hb5'.cell (p := ⟨q, 0, none⟩) hql).trans b0
          have s2 : w5.cell? ⟨q, 2, none⟩ = some (.int .i64 ((no k : Nat) : Int)) := (hb5'.cell (p := ⟨q, 2, none⟩) hql).trans b2
          refine ⟨⟨s0, s2⟩, ?_⟩
          (try go_simp)
          refine Pl.wp_float rfl rfl (.pointer (some ⟨g, m, none⟩)) (fun U hU => by (have u0 := hU.1; have u1 := hU.2; go_simp)) (fun _ _ _ h => h) ?_
          (try go_simp)
          show wpList _ _ _ _ _ _
          have ho5 := own_keep HX.out.1 hb5'
          have t0 : w5.cell? ⟨g, m, none⟩ = some y := (hb5'.cell (p := ⟨g, m, none⟩) hg2).trans cy
          have t1 : w5.frozen? ⟨g, m, none⟩ = false := ho5.frozenAt m
          have HNX : Aside (∃ xs : List Value, (w5.setCell ⟨g, m, none⟩ (.slice (some ⟨gm, 0, none⟩) 1 1)).ownsRow base 22 1 (.slice (some ⟨g, 0, none⟩) n c) n xs ∧ (∀ j u, j < m + 1 → xs[j]? = some u → MarkB (w5.setCell ⟨g, m, none⟩ (.slice (some ⟨gm, 0, none⟩) 1 1)) lo u (mark (no k))) ∧ Foot (fun q => F k q ∧ q < lo) W0 (w5.setCell ⟨g, m, none⟩ (.slice (some ⟨gm, 0, none⟩) 1 1))) := by
            obtain ⟨hown, htk, hft⟩ := HX.out
            have hxl : xs.length = n := by have := hown.1; simpa using this
            have hfs := (Foot.refl (fun q => F k q ∧ q < lo) w5).setCell (p := ⟨g, m, none⟩) (.inl HGF.out) (.slice (some ⟨gm, 0, none⟩) 1 1)
            have hlo5 : ∀ q, lo ≤ q → ¬ (F k q ∧ q < lo) := fun q hq hq' => by omega
            have hszw : lo ≤ wr.heap.size := by have := hft.size; have := HB0.out.2.2.2; have := HSZ.out; omega
            refine aside' ⟨xs.set m (.slice (some ⟨gm, 0, none⟩) 1 1), (ho5.stored m _).1, fun j u hj hu => ?_, ((hft.trans (Foot.ofBelow hb5' (fun _ => False)) (fun _ h => h.elim)).trans hfs (fun _ h => .inl h))⟩
            rcases Nat.lt_or_ge j m with h | h
            · rw [List.getElem?_set_ne (by omega)] at hu
              exact ((htk j u h hu).later hb5').foot hfs hlo5
            · obtain rfl : j = m := by omega
              rw [List.getElem?_set_self (by omega)] at hu
              injection hu with hu
              subst hu
              have hgl : lo ≤ gm := by rw [HGS.out]; exact hszw
              exact MarkB.foot ⟨gm, rfl, hgm, hgl⟩ hfs hlo5
          clear hgm HGS hb5 hb5' s0 s2 ho5 HX HMK HGF
          go_wp2
          go_roundw
          case rel => exact ⟨m + 1, by omega, by go_num, HNX.out⟩
          case measure => (simp [intOf]; omega)
        · obtain rfl : m = n := by omega
          have g2 : decide ((m : Int) < (m : Int)) = false := decide_eq_false (by omega)
          have hxl : xs.length = m := by have := hown.1; simpa using this
          have hL2 : L2b wr base (F k) lo (.slice A m c) (ns k) (no k) := by
            rw [hns]
            refine ⟨xs, hown, fun u hu => ?_, HF0.out⟩
            obtain ⟨j, hj, e⟩ := List.getElem_of_mem hu
            exact htk j u (by omega) (by rw [List.getElem?_eq_getElem hj, e])
          have hfd := HI.out.1.fl
          have HFIN := aside' (And.intro (HB0.out.1.foot hft (fun e => (hfd k b e.1).2.2.1 rfl) (fun q' hq' e => (hfd k q' e.1).2.2.2 hq')) (And.intro (HB0.out.2.1.next hft HI.out.1.fd (fun p' hp' => by rw [HP.out] at hp'; injection hp' with hp'; rw [← hp']; exact hL2)) (HB0.out.2.2.1.trans hft (fun i hi => .inl ⟨k, hi.1⟩))))
          clear hown htk hft hL2 hfd
          go_wp2
          go_roundw
          case rel => exact ⟨k + 1, by omega, by go_num, HFIN.out⟩
          case measure => (simp [intOf]; omega)
    · obtain rfl : k = ps.length := by omega
      have g1 : decide ((ps.length : Int) < (ps.length : Int)) = false := decide_eq_false (by omega)
      go_wp2
      go_end0
      exact ⟨⟨_, rfl⟩, HI.out⟩
end Go.Proofs.YtdgilloblfbklaaGreatDoor
