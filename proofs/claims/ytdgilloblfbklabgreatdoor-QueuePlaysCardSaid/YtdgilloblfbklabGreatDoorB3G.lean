/-
  A book of bytes: more is put behind each list.
-/
import Derived.Test.YtdgilloblfbklabGreatDoorB3G0
set_option linter.unusedVariables false
set_option linter.unusedSimpArgs false
namespace Go.Proofs.YtdgilloblfbklabGreatDoor.Own
open Go.RowKit

theorem reads_one8 (W : World) (t : TypeId) (x : Int) : Reads (W.alloc (.cells #[.int .u8 x] t)) .u8 (some ⟨W.heap.size, 0, none⟩) 1 [x] := by
  refine ⟨rfl, by decide, fun _ => ⟨_, rfl, fun j hj => ?_⟩⟩
  obtain rfl : j = 0 := by omega
  rw [add_plain, cellOf (heap_alloc_new W (.cells #[.int .u8 x] t)) 0]
  rfl
set_option maxRecDepth 100000 in
set_option maxHeartbeats 3200000 in
theorem grow_any (base b : Nat) (row : Value) (ps : List (Value × Value)) (ns : Nat → Nat) (F : Nat → Nat → Prop) (W : World) (h : Bk W base b row ps F) (hN : ps.length ≤ 1000000000) (hns : ∀ j, ns j ≤ 140737488355200) (h1 : Grow W base ps ns F 0) :
    Calls Tryz.prog 55 #[.pointer (some ⟨b, 0, none⟩)] W fun e w' => (∃ u, e = .returned u) ∧ ∃ ps' F', ps'.length = ps.length ∧ Bk w' base b row ps' F' ∧ Grow w' base ps' ns F' ps.length ∧ Foot (fun q => row.ownBlock = some q ∨ ∃ i, F i q) W w' := by
  have H0 := aside' (And.intro h h1)
  have HNS := aside' hns
  have hbase : base ≤ W.heap.size := Nat.le_of_lt (Nat.lt_of_le_of_lt h.bb (Array.getElem?_eq_some_iff.1 h.hb).1)
  clear h h1 hns
  obtain ⟨N, hNe⟩ : ∃ N, N = ps.length := ⟨_, rfl⟩
  rw [← hNe] at hN ⊢
  have HNe := aside' hNe
  clear hNe
  go_enter Tryz.func55, Tryz.ntmps55
  go_wp2
  go_loopw [2] (fun i wr => ∃ k : Nat, k ≤ N ∧ i = .int .i64 k ∧ Aside (∃ ps' F', ps'.length = N ∧ Bk wr base b row ps' F' ∧ Grow wr base ps' ns F' k ∧ Foot (fun q => row.ownBlock = some q ∨ ∃ i, F i q) W wr ∧ ∀ i q, F' i q → F i q ∨ W.heap.size ≤ q)) (fun i _ => N - (intOf i).toNat)
  case atStart => exact ⟨0, Nat.zero_le _, rfl, ps, F, HNe.out.symm, H0.out.1, H0.out.2, Foot.refl _ _, fun _ _ h => .inl h⟩
  case round =>
    obtain ⟨k, hk, rfl, HI⟩ := hrel
    obtain ⟨qs, G, hql, hbk, hgr, hft, hgf⟩ := HI.out
    clear H0 HI
    have hbc : wr.cell? ⟨b, 2, none⟩ = some row := cellOf hbk.hb 2
    obtain ⟨Ar, Lr, cr0, hrow, HLr⟩ := own_form hbk.hr
    have hLr := HLr.out
    rw [hql] at hLr
    subst hLr
    subst hrow
    have HI := aside' (And.intro hbk (And.intro hgr hft))
    have HGF := aside' hgf
    clear hgf
    by_cases hlt : k < Lr
    · have g1 : decide ((k : Int) < (Lr : Int)) = true := decide_eq_true (by omega)
      have g1n : decide (k < Lr) = true := decide_eq_true hlt
      obtain ⟨p, hp⟩ : ∃ p, qs[k]? = some p := ⟨_, List.getElem?_eq_getElem (by omega)⟩
      obtain ⟨r, cr, hr, hrl, hcr, e1, e2, e3⟩ := hbk.at hp
      injection hr with hr1 hr2 hr3
      subst hr1
      subst hr3
      obtain ⟨hlg, hL2⟩ := (hgr k p hp).2 (Nat.le_refl _)
      obtain ⟨v, lg⟩ := p
      simp only at e1 e2 hlg hL2
      subst hlg
      obtain ⟨A, n, c, rfl, HLn⟩ := hL2.1.form
      have hn := HLn.out
      subst hn
      have hnb := HNS.out k
      have HP := aside' hp
      have i0 : (0 : Int) ≤ (k : Int) := by omega
      have i1 : (k : Int) < (Lr : Int) := by omega
      have hal := (Foot.refl (fun _ => False) wr).alloc (.cells #[.slice A (ns k) c, .slice none 0 0, .int .i64 ((k : Int) + 1)] 113)
      have HL0 := aside' (hL2.foot hal (fun _ _ h => h))
      have HBX := aside' (heap_alloc_new wr (.cells #[.slice A (ns k) c, .slice none 0 0, .int .i64 ((k : Int) + 1)] 113))
      have HB0 := aside' (And.intro (hbk.foot hal (fun h => h) (fun _ _ h => h)) (And.intro (hgr.foot hal (fun _ _ _ h => h) (fun j q hq => (hbk.fl j q hq).2.1)) (And.intro (hft.alloc (.cells #[.slice A (ns k) c, .slice none 0 0, .int .i64 ((k : Int) + 1)] 113)) (show wr.heap.size < (wr.alloc (.cells #[.slice A (ns k) c, .slice none 0 0, .int .i64 ((k : Int) + 1)] 113)).heap.size by simp))))
      have HV := aside' (And.intro (show ∀ q, (Value.slice A (ns k) c).ownBlock = some q → q < wr.heap.size from fun q hq => (hL2.1.lt q hq).2) (show 0 < ns k → ∃ g, A = some ⟨g, 0, none⟩ from fun h => by
        obtain ⟨g, c', hv, _⟩ := hL2.1.some_ h
        injection hv with hv1 _ _
        exact ⟨g, hv1⟩))
      have hnc : ns k ≤ c := hL2.1.cap_
      clear hr2 hL2 hp HLn hal hbk hgr hft
      generalize hns : ns k = n at *
      go_upto_region 4 with fail
      generalize hWq : wr.alloc (.cells #[.slice A n c, .slice none 0 0, .int .i64 ((k : Int) + 1)] 113) = W0 at *
      have b0_ : W0.cell? ⟨wr.heap.size, 0, none⟩ = some (.slice A n c) := cellOf HBX.out 0
      clear e1 e2 e3 hbc hWq
      go_wp2_with fail
      clear b0_
      have HST := aside' (show GI W0 base A n c (mark k) W0 (.slice A n c) 0 from GI.start (F := G k) (i := k) HL0.out)
      generalize hq : wr.heap.size = q at *
      go_loopw [4, 5] (fun long kk wr => ∃ m : Nat, m ≤ 40 ∧ kk = .int .i64 m ∧ Aside (GI W0 base A n c (mark k) wr long m)) (fun _ kk _ => 40 - (intOf kk).toNat)
      case atStart => exact ⟨0, Nat.zero_le _, rfl, HST.out⟩
      case round =>
        obtain ⟨m, hm, rfl, HM⟩ := hrel
        obtain ⟨Al, Ll, cl, rfl, HLl⟩ := HM.out.1.form
        have hLl := HLl.out
        subst hLl
        by_cases hlt2 : m < 40
        · have g2 : decide ((m : Int) < 40) = true := decide_eq_true (by omega)
          have hbx := HM.out.2.1.blk HBX.out (fun e => by have := HV.out.1 q e; omega)
          have b2 : wr.cell? ⟨q, 2, none⟩ = some (.int .i64 ((k : Int) + 1)) := cellOf hbx 2
          have HMK := aside' (mark_any k (by omega) wr)
          have hmb := mark_bd k
          have hsz := HM.out.2.1.size
          have HO := aside' ((show FRow wr base (.slice Al (n + m) cl) (n + m) (List.replicate (n + m) (mark k)) from HM.out.1).alloc (.cells #[.int .u8 (mark k)] 5))
          have HRO := aside' (reads_one8 wr 5 (mark k))
          have hbs : base ≤ (wr.alloc (.cells #[.int .u8 (mark k)] 5)).heap.size := by have := HB0.out.2.2.1.size; simp; omega
          clear hbx HLl
          go_wp2_with fail
          refine Calls.mono HMK.out ?_
          rintro e w' ⟨rfl, hw'⟩
          have hw' := hw'.symm
          subst hw'
          go_wp2_with (at_builtin; refine append_frow base rfl _ _ 35 rfl Tryz.underlying35 infoBY (.slice Al (n + m) cl) (n + m) (List.replicate (n + m) (mark k)) [mark k] _ 1 1 rfl rfl (by omega) HO.out HRO.out hbs (by omega) ?_; intro v1 w1 hown1 hg1 hat1; have hG1 := HM.out.step (fun q' hq' => (by have := HV.out.1 q' hq'; have := HB0.out.2.2.2; omega)) HV.out.2 hown1 hg1 hat1; have HG1 := aside' hG1; obtain ⟨g1, k1, rfl, _, _, _, _⟩ := hG1.1.some_ (by omega); clear hown1 hg1 hat1 hG1)
          go_roundw
          case rel => exact ⟨m + 1, by omega, by go_num, HG1.out⟩
          case measure => (simp [intOf]; omega)
        · obtain rfl : m = 40 := by omega
          have g2 : decide (((40 : Nat) : Int) < 40) = false := by decide
          obtain ⟨hown, hft, hrd, hat⟩ := HM.out
          have hfl := HB0.out.1.fl
          have hvG := HL0.out.2
          have hbl := (Array.getElem?_eq_some_iff.1 HB0.out.1.hb).1
          have hrl0 := own_lt' HB0.out.1.hr (g := r) rfl
          have hbk : wr.heap[b]? = W0.heap[b]? := hft.block b hbl (fun e => (hfl k b (hvG b e)).2.2.1 rfl)
          have hrk : wr.heap[r]? = W0.heap[r]? := hft.block r hrl0.2 (fun e => (hfl k r (hvG r e)).2.2.2 rfl)
          obtain ⟨r', cr', hr', _, _, s1, s2, s3⟩ := HB0.out.1.at HP.out
          have er : r = r' := by
            have h' := congrArg Value.ownBlock hr'
            simpa [Value.ownBlock] using h'
          rw [← er] at s1 s2 s3
          clear er hr'
          have kb : wr.cell? ⟨b, 2, none⟩ = some (.slice (some ⟨r, 0, none⟩) Lr cr0) := (World.cell?_of_block (a := ⟨b, 2, none⟩) hbk).trans (cellOf HB0.out.1.hb 2)
          have kc : wr.cell? ⟨r, k * 3 + 1, none⟩ = some (.slice none 0 0) := (World.cell?_of_block (a := ⟨r, k * 3 + 1, none⟩) hrk).trans s2
          have kf : wr.frozen? ⟨r, k * 3 + 1, none⟩ = false := (World.frozen?_of_block (a := ⟨r, k * 3 + 1, none⟩) hrk).trans (by have h := HB0.out.1.hr; rw [hql] at h; exact h.frozenAt _)
          have hX : ∀ q', ((Value.slice Al (n + 40) cl).ownBlock = some q' ∧ W0.heap.size ≤ q') → base ≤ q' ∧ W0.heap.size ≤ q' ∧ q' < wr.heap.size := fun q' hq' => ⟨(hown.lt q' hq'.1).1, hq'.2, (hown.lt q' hq'.1).2⟩
          have hfr : Foot (fun q' => (Value.slice A n c).ownBlock = some q' ∨ q' = r) W0 (wr.setCell ⟨r, k * 3 + 1, none⟩ (.slice Al (n + 40) cl)) := (hft.mono (fun _ _ h => .inl h)).setCell (p := ⟨r, k * 3 + 1, none⟩) (.inl (.inr rfl)) _
          have hBk := HB0.out.1
          rw [← hql] at hBk
          have hB2 := hBk.long (W := wr) (X := fun q' => (Value.slice Al (n + 40) cl).ownBlock = some q' ∧ W0.heap.size ≤ q') (long := .slice Al (n + 40) cl) hbk hrk hft.size HP.out hX
          rw [hql] at hB2
          have hlr : ∀ q', (Value.slice Al (n + 40) cl).ownBlock = some q' → q' ≠ r := by
            intro q' hq'
            rcases hat with h | ⟨g, h, hge⟩
            · have := (hfl k q' (hvG q' (h ▸ hq'))).2.2.2
              exact fun e => this (by rw [e]; rfl)
            · rw [h] at hq'; injection hq' with hq'; omega
          have hL3 : L3 (wr.setCell ⟨r, k * 3 + 1, none⟩ (.slice Al (n + 40) cl)) base (fun q' => G k q' ∨ (k = k ∧ ((Value.slice Al (n + 40) cl).ownBlock = some q' ∧ W0.heap.size ≤ q'))) (.slice A n c) (.slice Al (n + 40) cl) (ns k) k := by
            rw [hns]
            refine ⟨hown.foot ((Foot.refl (fun q' => q' = r) wr).setCell (p := ⟨r, k * 3 + 1, none⟩) (.inl rfl) _) hlr, fun q' hq' => ?_, A, c, rfl, hnc, reads_keep hrd (fun ad e hn0 => ?_), fun hn0 => ?_⟩
            · rcases hat with h | ⟨g, h, hge⟩
              · exact .inl (hvG q' (h ▸ hq'))
              · refine .inr ⟨rfl, hq', ?_⟩
                rw [h] at hq'; injection hq' with hq'; omega
            · obtain ⟨g, hg⟩ := HV.out.2 hn0
              rw [hg] at e
              injection e with e
              subst e
              have := (hfl k g (hvG g (by rw [hg]; rfl))).2.2.2
              exact Below.heap_setCell _ _ _ _ (fun e => this (by have e' : g = r := e; rw [e']; rfl))
            · obtain ⟨g, hg⟩ := HV.out.2 hn0
              exact ⟨g, hg, .inl (hvG g (by rw [hg]; rfl))⟩
          have hG2 := HB0.out.2.1.next (X := fun q' => (Value.slice Al (n + 40) cl).ownBlock = some q' ∧ W0.heap.size ≤ q') hfr (fun j q' hj hq' h => by
            rcases h with h | h
            · exact hj (HB0.out.1.fd j k q' hq' (hvG q' h))
            · exact (hfl j q' hq').2.2.2 (by rw [h]; rfl)) (fun j q' hq' => (hfl j q' hq').2.1) (by omega) hL3
          have HFIN := aside' (show ∃ ps' F', ps'.length = Lr ∧ Bk (wr.setCell ⟨r, k * 3 + 1, none⟩ (.slice Al (n + 40) cl)) base b (.slice (some ⟨r, 0, none⟩) Lr cr0) ps' F' ∧ Grow (wr.setCell ⟨r, k * 3 + 1, none⟩ (.slice Al (n + 40) cl)) base ps' ns F' (k + 1) ∧ Foot (fun q' => (Value.slice (some ⟨r, 0, none⟩) Lr cr0).ownBlock = some q' ∨ ∃ i, F i q') W (wr.setCell ⟨r, k * 3 + 1, none⟩ (.slice Al (n + 40) cl)) ∧ ∀ i q', F' i q' → F i q' ∨ W.heap.size ≤ q' from
            ⟨_, _, by rw [List.length_set]; exact hql, hB2, hG2, HB0.out.2.2.1.trans hfr (fun q' hq' => by
              rcases hq' with h | h
              · exact (HGF.out k q' (hvG q' h)).imp (fun h => .inr ⟨k, h⟩) id
              · rw [h]; exact .inl (.inl rfl)), fun i q' hq' => by
              rcases hq' with h | ⟨_, _, h⟩
              · exact HGF.out i q' h
              · exact .inr (Nat.le_trans HB0.out.2.2.1.size h)⟩)
          clear hown hft hrd hat hfl hvG hbl hrl0 hbk hrk s1 s2 s3 hX hfr hBk hB2 hlr hL3 hG2
          go_wp2
          go_roundw
          case rel => exact ⟨k + 1, by omega, by go_num, HFIN.out⟩
          case measure => (simp [intOf]; omega)
    · obtain rfl : k = Lr := by omega
      have g1 : decide ((k : Int) < (k : Int)) = false := decide_eq_false (by omega)
      have HF := aside' (show ∃ ps' F', ps'.length = k ∧ Bk wr base b (.slice Ar k cr0) ps' F' ∧ Grow wr base ps' ns F' k ∧ Foot (fun q => (Value.slice Ar k cr0).ownBlock = some q ∨ ∃ i, F i q) W wr from ⟨qs, G, hql, HI.out⟩)
      clear hbk hgr hft
      go_wp2
      go_end0
      exact ⟨⟨_, rfl⟩, HF.out⟩
end Go.Proofs.YtdgilloblfbklabGreatDoor.Own
