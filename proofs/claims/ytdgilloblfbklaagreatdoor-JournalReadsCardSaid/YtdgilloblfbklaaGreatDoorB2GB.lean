/-
  A book of blobs: more is put behind each list.
-/
import Derived.Test.YtdgilloblfbklaaGreatDoorB2G0B
set_option linter.unusedVariables false
set_option linter.unusedSimpArgs false
namespace Go.Proofs.YtdgilloblfbklaaGreatDoor
open Go.RowKit

set_option maxRecDepth 100000 in
set_option maxHeartbeats 3200000 in
theorem growB_any (base b : Nat) (cs : Array Value) (row : Value) (ps : List (Value × Value)) (no ns : Nat → Nat) (F : Nat → Nat → Prop) (lo : Nat) (W : World) (h : Bk 5 81 W base b cs row ps no F) (hN : ps.length ≤ 1000000000) (hns : ∀ j, ns j ≤ 1000000000000) (h1 : GrowB W base ps no ns F lo 0) (hlo : lo ≤ W.heap.size) (hrl : ∀ q, row.ownBlock = some q → q < lo) :
    Calls Tryz.prog 52 #[.pointer (some ⟨b, 0, none⟩)] W fun e w' => (∃ u, e = .returned u) ∧ ∃ ps' F', ps'.length = ps.length ∧ Bk 5 81 w' base b cs row ps' no F' ∧ GrowB w' base ps' no ns F' lo ps.length ∧ Foot (fun q => row.ownBlock = some q ∨ ∃ i, F i q) W w' ∧ ∀ i q, F' i q → F i q ∨ W.heap.size ≤ q := by
  have H0 := aside' (And.intro h h1)
  have HNS := aside' hns
  have HNB := aside' h.nb
  have HLO := aside' (And.intro hlo hrl)
  have hbase : base ≤ W.heap.size := Nat.le_of_lt (Nat.lt_of_le_of_lt h.bb (Array.getElem?_eq_some_iff.1 h.hb).1)
  clear h h1 hns hlo hrl
  obtain ⟨N, hNe⟩ : ∃ N, N = ps.length := ⟨_, rfl⟩
  rw [← hNe] at hN ⊢
  have HNe := aside' hNe
  clear hNe
  go_enter Tryz.func52, Tryz.ntmps52
  go_wp2
  go_loopw [2] (fun i wr => ∃ k : Nat, k ≤ N ∧ i = .int .i64 k ∧ Aside (∃ ps' F', ps'.length = N ∧ Bk 5 81 wr base b cs row ps' no F' ∧ GrowB wr base ps' no ns F' lo k ∧ Foot (fun q => row.ownBlock = some q ∨ ∃ i, F i q) W wr ∧ ∀ i q, F' i q → F i q ∨ W.heap.size ≤ q)) (fun i _ => N - (intOf i).toNat)
  case atStart => exact ⟨0, Nat.zero_le _, rfl, ps, F, HNe.out.symm, H0.out.1, H0.out.2, Foot.refl _ _, fun _ _ h => .inl h⟩
  case round =>
    obtain ⟨k, hk, rfl, HI⟩ := hrel
    obtain ⟨qs, G, hql, hbk, hgr, hft, hgf⟩ := HI.out
    clear H0 HI
    have hbc : wr.cell? ⟨b, 5, none⟩ = some row := (cellOf hbk.hb 5).trans hbk.hx
    obtain ⟨Ar, Lr, cr0, hrow, HLr⟩ := own_form hbk.hr
    have hLr := HLr.out
    rw [hql] at hLr
    subst hLr
    subst hrow
    have HI := aside' (And.intro hbk (And.intro hgr hft))
    have HGF := aside' hgf
    clear hgf
    by_cases hlt : k < Lr
    · have g1 : decide ((k : Int) < (Lr : Int)) = true := decide_eq_true (by omega)
      have g1n : decide (k < Lr) = true := decide_eq_true hlt
      obtain ⟨p, hp⟩ : ∃ p, qs[k]? = some p := ⟨_, List.getElem?_eq_getElem (by omega)⟩
      obtain ⟨r, cr, hr, hrl, hcr, e1, e2, e3⟩ := hbk.at hp
      injection hr with hr1 hr2 hr3
      subst hr1
      subst hr3
      have hrlo : r < lo := HLO.out.2 r rfl
      obtain ⟨hlg, hL2⟩ := (hgr k p hp).2 (Nat.le_refl _)
      obtain ⟨v, lg⟩ := p
      simp only at e1 e2 hlg hL2
      subst hlg
      have hL2' := hL2
      obtain ⟨vs0, hL2o, hL2m, hL2f⟩ := hL2'
      obtain ⟨A, n, c, rfl, HLn⟩ := own_form hL2o
      have hn := HLn.out
      subst hn
      have hnb := HNS.out k
      have HP := aside' hp
      have i0 : (0 : Int) ≤ (k : Int) := by omega
      have i1 : (k : Int) < (Lr : Int) := by omega
      have hal := (Foot.refl (fun _ => False) wr).alloc (.cells #[.slice A (ns k) c, .slice none 0 0, .int .i64 ((no k : Nat) : Int)] 81)
      have HL0 := aside' (hL2.foot hal (fun _ _ h => h) (fun _ _ h => h))
      have HBX := aside' (heap_alloc_new wr (.cells #[.slice A (ns k) c, .slice none 0 0, .int .i64 ((no k : Nat) : Int)] 81))
      have HB0 := aside' (And.intro (hbk.foot hal (fun h => h) (fun _ _ h => h)) (And.intro (hgr.foot hal (fun _ _ _ h => h) (fun _ _ h => h) (fun j q hq => (hbk.fl j q hq).2.1)) (And.intro (hft.alloc (.cells #[.slice A (ns k) c, .slice none 0 0, .int .i64 ((no k : Nat) : Int)] 81)) (show wr.heap.size < (wr.alloc (.cells #[.slice A (ns k) c, .slice none 0 0, .int .i64 ((no k : Nat) : Int)] 81)).heap.size by simp))))
      have HV := aside' (And.intro (show ∀ q, (Value.slice A (ns k) c).ownBlock = some q → q < wr.heap.size from fun q hq => (own_lt' hL2o hq).2) (show 0 < ns k → ∃ g, A = some ⟨g, 0, none⟩ from fun h => by
        obtain ⟨g, c', hv, _⟩ := own_some hL2o h
        injection hv with hv1 _ _
        exact ⟨g, hv1⟩))
      have HVG := aside' hL2f
      have hnc : ns k ≤ c := by
        rcases hL2o.2 with ⟨h1, _⟩ | ⟨g, cap, cur, h1, _, _, h4, _⟩
        · injection h1 with _ h2 _; omega
        · injection h1 with _ _ h3; omega
      have HSW := aside' (show lo ≤ wr.heap.size from Nat.le_trans HLO.out.1 hft.size)
      clear hr2 hL2 hL2o hL2m hL2f hp HLn hal hbk hgr hft
      generalize hns : ns k = n at *
      go_upto_region 4 with fail
      generalize hWq : wr.alloc (.cells #[.slice A n c, .slice none 0 0, .int .i64 ((no k : Nat) : Int)] 81) = W0 at *
      have b0_ : W0.cell? ⟨wr.heap.size, 0, none⟩ = some (.slice A n c) := cellOf HBX.out 0
      clear e1 e2 e3 hbc hWq
      go_wp2_with fail
      clear b0_
      have HST := aside' (show GIb W0 base A n c lo (mark (no k)) W0 (.slice A n c) 0 from GIb.start (F := G k) (i := no k) HL0.out)
      generalize hq : wr.heap.size = q at *
      go_loopw [4, 5] (fun long kk wr => ∃ m : Nat, m ≤ 40 ∧ kk = .int .i64 m ∧ Aside (GIb W0 base A n c lo (mark (no k)) wr long m)) (fun _ kk _ => 40 - (intOf kk).toNat)
      case atStart => exact ⟨0, Nat.zero_le _, rfl, HST.out⟩
      case round =>
        obtain ⟨m, hm, rfl, HM⟩ := hrel
        obtain ⟨xs, hxo, hxm⟩ := HM.out.1
        obtain ⟨Al, Ll, cl, rfl, HLl⟩ := own_form hxo
        have hLl := HLl.out
        subst hLl
        by_cases hlt2 : m < 40
        · have g2 : decide ((m : Int) < 40) = true := decide_eq_true (by omega)
          have hbx := HM.out.2.1.blk HBX.out (fun e => by have := HV.out.1 q e; omega)
          have b2 : wr.cell? ⟨q, 2, none⟩ = some (.int .i64 ((no k : Nat) : Int)) := cellOf hbx 2
          have HMK := aside' (markB_any (no k) (HNB.out k) wr)
          have hsz := HM.out.2.1.size
          have HXO := aside' (And.intro hxo hxm)
          clear hbx HLl hxo hxm
          go_wp2_with fail
          refine Calls.mono HMK.out ?_
          rintro e w5 ⟨gm, rfl, hgm, hgs, hb5⟩
          have HM5 := aside' (HM.out.later hb5 (fun hn0 => by
            obtain ⟨g, hg⟩ := HV.out.2 hn0
            exact ⟨g, hg, by have := HV.out.1 g (by rw [hg]; rfl); have := HB0.out.2.2.2; omega⟩))
          have HU0 : Aside (MarkB w5 lo (.slice (some ⟨gm, 0, none⟩) 1 1) (mark (no k))) := aside' ⟨gm, rfl, hgm, by have := HSW.out; have := HB0.out.2.2.2; omega⟩
          have HO := aside' ((own_keep HXO.out.1 hb5).alloc (.cells #[.slice (some ⟨gm, 0, none⟩) 1 1] 22))
          have HXM := aside' (fun u hu => (HXO.out.2 u hu).later hb5)
          have HO5 := aside' (own_keep HXO.out.1 hb5)
          have HC := aside' (Cells.lit w5 22 #[.slice (some ⟨gm, 0, none⟩) 1 1] 1 1 rfl (by intro u hu; simp at hu; subst hu; rfl))
          have hbs : base ≤ (w5.alloc (.cells #[.slice (some ⟨gm, 0, none⟩) 1 1] 22)).heap.size := by have := HB0.out.2.2.1.size; have := hb5.size; simp; omega
          clear hgs hgm hb5 HMK
          go_wp2_with (at_builtin; refine append_cells_far base rfl _ _ 24 22 (.slice none 0 0) 24 rfl Tryz.underlying24 infoSSB (by rfl) (by omega) (.slice Al (n + m) cl) (n + m) xs [.slice (some ⟨gm, 0, none⟩) 1 1] _ 1 1 rfl rfl (by omega) HO.out HC.out hbs (by omega) ?_; intro v1 w1 hown1 hg1 hat1; have hG1 := HM5.out.step HU0.out (fun q' hq' => (by have := HV.out.1 q' hq'; have := HB0.out.2.2.2; omega)) HV.out.2 (fun _ _ _ => ⟨xs, hown1, HXM.out⟩) hg1 hat1; have HG1 := aside' hG1; obtain ⟨g1, k1, rfl, _, _, _, _⟩ := own_some hown1 (by omega); clear hown1 hg1 hat1 hG1)
          go_roundw
          case rel => exact ⟨m + 1, by omega, by go_num, HG1.out⟩
          case measure => (simp [intOf]; omega)
        · obtain rfl : m = 40 := by omega
          have g2 : decide (((40 : Nat) : Int) < 40) = false := by decide
          obtain ⟨_, hft, hrd, hat⟩ := HM.out
          have hfl := HB0.out.1.fl
          have hvG := fun q hq => (HVG.out q hq).1
          have hbl := (Array.getElem?_eq_some_iff.1 HB0.out.1.hb).1
          have hrl0 := own_lt' HB0.out.1.hr (g := r) rfl
          have hbk : wr.heap[b]? = W0.heap[b]? := hft.block b hbl (fun e => (hfl k b (hvG b e)).2.2.1 rfl)
          have hrk : wr.heap[r]? = W0.heap[r]? := hft.block r hrl0.2 (fun e => (hfl k r (hvG r e)).2.2.2 rfl)
          obtain ⟨r', cr', hr', _, _, s1, s2, s3⟩ := HB0.out.1.at HP.out
          have er : r = r' := by
            have h' := congrArg Value.ownBlock hr'
            simpa [Value.ownBlock] using h'
          rw [← er] at s1 s2 s3
          clear er hr'
          have kb : wr.cell? ⟨b, 5, none⟩ = some (.slice (some ⟨r, 0, none⟩) Lr cr0) := (World.cell?_of_block (a := ⟨b, 5, none⟩) hbk).trans ((cellOf HB0.out.1.hb 5).trans HB0.out.1.hx)
          have kc : wr.cell? ⟨r, k * 3 + 1, none⟩ = some (.slice none 0 0) := (World.cell?_of_block (a := ⟨r, k * 3 + 1, none⟩) hrk).trans s2
          have kf : wr.frozen? ⟨r, k * 3 + 1, none⟩ = false := (World.frozen?_of_block (a := ⟨r, k * 3 + 1, none⟩) hrk).trans (by have h := HB0.out.1.hr; rw [hql] at h; exact h.frozenAt _)
          have hX : ∀ q', ((Value.slice Al (n + 40) cl).ownBlock = some q' ∧ W0.heap.size ≤ q') → base ≤ q' ∧ W0.heap.size ≤ q' ∧ q' < wr.heap.size := fun q' hq' => ⟨(own_lt' hxo hq'.1).1, hq'.2, (own_lt' hxo hq'.1).2⟩
          have hfr : Foot (fun q' => (Value.slice A n c).ownBlock = some q' ∨ q' = r) W0 (wr.setCell ⟨r, k * 3 + 1, none⟩ (.slice Al (n + 40) cl)) := (hft.mono (fun _ _ h => .inl h)).setCell (p := ⟨r, k * 3 + 1, none⟩) (.inl (.inr rfl)) _
          have hfs := (Foot.refl (fun q' => q' = r) wr).setCell (p := ⟨r, k * 3 + 1, none⟩) (.inl rfl) (.slice Al (n + 40) cl)
          have hlos : ∀ q', lo ≤ q' → ¬ q' = r := fun q' hq' e => by omega
          have hBk := HB0.out.1
          rw [← hql] at hBk
          have hB2 := hBk.long (W := wr) (X := fun q' => (Value.slice Al (n + 40) cl).ownBlock = some q' ∧ W0.heap.size ≤ q') (long := .slice Al (n + 40) cl) hbk hrk hft.size HP.out hX
          rw [hql] at hB2
          have hlr : ∀ q', (Value.slice Al (n + 40) cl).ownBlock = some q' → q' ≠ r := by
            intro q' hq'
            rcases hat with h | ⟨g, h, hge⟩
            · have := (hfl k q' (hvG q' (h ▸ hq'))).2.2.2
              exact fun e => this (by rw [e]; rfl)
            · rw [h] at hq'; injection hq' with hq'; omega
          have hL3 : L3b (wr.setCell ⟨r, k * 3 + 1, none⟩ (.slice Al (n + 40) cl)) base (fun q' => G k q' ∨ (k = k ∧ ((Value.slice Al (n + 40) cl).ownBlock = some q' ∧ W0.heap.size ≤ q'))) lo (.slice A n c) (.slice Al (n + 40) cl) (ns k) (no k) := by
            rw [hns]
            refine ⟨⟨xs, own_foot hxo hfs hlr, fun u hu => (hxm u hu).foot hfs hlos⟩, fun q' hq' => ?_, A, c, rfl, hnc, hrd.keep hfs hlos (fun g e hn0 => ?_), fun hn0 => ?_⟩
            · rcases hat with h | ⟨g, h, hge⟩
              · exact .inl (hvG q' (h ▸ hq'))
              · refine .inr ⟨rfl, hq', ?_⟩
                rw [h] at hq'; injection hq' with hq'; omega
            · have := (hfl k g (hvG g (by rw [e]; rfl))).2.2.2
              exact Below.heap_setCell _ _ _ _ (fun e => this (by have e' : g = r := e; rw [e']; rfl))
            · obtain ⟨g, hg⟩ := HV.out.2 hn0
              exact ⟨g, hg, .inl (hvG g (by rw [hg]; rfl))⟩
          have hG2 := HB0.out.2.1.next (X := fun q' => (Value.slice Al (n + 40) cl).ownBlock = some q' ∧ W0.heap.size ≤ q') hfr (fun j q' hj hq' h => by
            rcases h with h | h
            · exact hj (HB0.out.1.fd j k q' hq' (hvG q' h))
            · exact (hfl j q' hq').2.2.2 (by rw [h]; rfl)) (fun q' hq' h => by
            rcases h with h | h
            · have := (HVG.out q' h).2; omega
            · omega) (fun j q' hq' => (hfl j q' hq').2.1) (by omega) hL3
          have HFIN := aside' (show ∃ ps' F', ps'.length = Lr ∧ Bk 5 81 (wr.setCell ⟨r, k * 3 + 1, none⟩ (.slice Al (n + 40) cl)) base b cs (.slice (some ⟨r, 0, none⟩) Lr cr0) ps' no F' ∧ GrowB (wr.setCell ⟨r, k * 3 + 1, none⟩ (.slice Al (n + 40) cl)) base ps' no ns F' lo (k + 1) ∧ Foot (fun q' => (Value.slice (some ⟨r, 0, none⟩) Lr cr0).ownBlock = some q' ∨ ∃ i, F i q') W (wr.setCell ⟨r, k * 3 + 1, none⟩ (.slice Al (n + 40) cl)) ∧ ∀ i q', F' i q' → F i q' ∨ W.heap.size ≤ q' from
            ⟨_, _, by rw [List.length_set]; exact hql, hB2, hG2, HB0.out.2.2.1.trans hfr (fun q' hq' => by
              rcases hq' with h | h
              · exact (HGF.out k q' (hvG q' h)).imp (fun h => .inr ⟨k, h⟩) id
              · rw [h]; exact .inl (.inl rfl)), fun i q' hq' => by
              rcases hq' with h | ⟨_, _, h⟩
              · exact HGF.out i q' h
              · exact .inr (Nat.le_trans HB0.out.2.2.1.size h)⟩)
          clear hft hrd hat hfl hvG hbl hrl0 hbk hrk s1 s2 s3 hX hfr hfs hlos hBk hB2 hlr hL3 hG2 hxo hxm
          go_wp2
          go_roundw
          case rel => exact ⟨k + 1, by omega, by go_num, HFIN.out⟩
          case measure => (simp [intOf]; omega)
    · obtain rfl : k = Lr := by omega
      have g1 : decide ((k : Int) < (k : Int)) = false := decide_eq_false (by omega)
      have HF := aside' (show ∃ ps' F', ps'.length = k ∧ Bk 5 81 wr base b cs (.slice Ar k cr0) ps' no F' ∧ GrowB wr base ps' no ns F' lo k ∧ Foot (fun q => (Value.slice Ar k cr0).ownBlock = some q ∨ ∃ i, F i q) W wr ∧ ∀ i q, F' i q → F i q ∨ W.heap.size ≤ q from ⟨qs, G, hql, HI.out.1, HI.out.2.1, HI.out.2.2, HGF.out⟩)
      clear hbk hgr hft
      go_wp2
      go_end0
      exact ⟨⟨_, rfl⟩, HF.out⟩
end Go.Proofs.YtdgilloblfbklaaGreatDoor
