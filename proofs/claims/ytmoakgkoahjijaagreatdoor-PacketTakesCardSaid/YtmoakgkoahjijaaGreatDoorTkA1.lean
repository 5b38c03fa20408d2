/-
  A book of bytes: more is put behind each list.
-/
import Derived.Test.YtmoakgkoahjijaaGreatDoorTkA
import Derived.Deep.QuietTactic
import Derived.BigQuiet
import Derived.Test.YtmoakgkoahjijaaGreatDoorProg
import Derived.Laws.MakeOwn
set_option linter.unusedVariables false
set_option linter.unusedSimpArgs false
namespace Go.Proofs.YtmoakgkoahjijaaGreatDoor
open Go.RowKit

theorem reads_one8 (W : World) (t : TypeId) (x : Int) : Reads (W.alloc (.cells #[.int .u8 x] t)) .u8 (some ⟨W.heap.size, 0, none⟩) 1 [x] := by
  refine ⟨rfl, by decide, fun _ => ⟨_, rfl, fun j hj => ?_⟩⟩
  obtain rfl : j = 0 := by omega
  rw [add_plain, cellOf (heap_alloc_new W (.cells #[.int .u8 x] t)) 0]
  rfl
set_option maxRecDepth 100000 in
set_option maxHeartbeats 3200000 in
theorem grow_any (base b : Nat) (row : Value) (ps : List (Value × Value)) (ns : Nat → Nat) (F : Nat → Nat → Prop) (W : World) (h : Bk W base b row ps F) (hN : ps.length ≤ 1000000000) (hns : ∀ j, ns j ≤ 140737488355200) (h1 : Grow W base ps ns F 0) :
    Calls Tryz.prog 76 #[.pointer (some ⟨b, 0, none⟩)] W fun e w' => (∃ u, e = .returned u) ∧ ∃ ps' F', ps'.length = ps.length ∧ Bk w' base b row ps' F' ∧ Grow w' base ps' ns F' ps.length ∧ Foot (fun q => row.ownBlock = some q ∨ ∃ i, F i q) W w' := by
  have H0 := aside' (And.intro h h1)
  have HNS := aside' hns
  have hbase : base ≤ W.heap.size := Nat.le_of_lt (Nat.lt_of_le_of_lt h.bb (Array.getElem?_eq_some_iff.1 h.hb).1)
  clear h h1 hns
  obtain ⟨N, hNe⟩ : ∃ N, N = ps.length := ⟨_, rfl⟩
  rw [← hNe] at hN ⊢
  have HNe := aside' hNe
  clear hNe
  go_enter Tryz.func76, Tryz.ntmps76
  go_wp2
  go_loopw [2] (fun i wr => ∃ k : Nat, k ≤ N ∧ i = .int .i64 k ∧ Aside (∃ ps' F', ps'.length = N ∧ Bk wr base b row ps' F' ∧ Grow wr base ps' ns F' k ∧ Foot (fun q => row.ownBlock = some q ∨ ∃ i, F i q) W wr ∧ ∀ i q, F' i q → F i q ∨ W.heap.size ≤ q)) (fun i _ => N - (intOf i).toNat)
  case atStart => exact ⟨0, Nat.zero_le _, rfl, ps, F, HNe.out.symm, H0.out.1, H0.out.2, Foot.refl _ _, fun _ _ h => .inl h⟩
  case round =>
    obtain ⟨k, hk, rfl, HI⟩ := hrel
    obtain ⟨qs, G, hql, hbk, hgr, hft, hgf⟩ := HI.out
    clear H0 HI
    have hbc : wr.cell? ⟨b, 2, none⟩ = some row := cellOf hbk.hb 2
    obtain ⟨Ar, Lr, cr0, hrow, HLr⟩ := own_form hbk.hr
    have hLr := HLr.out
    rw [hql] at hLr
    subst hLr
    subst hrow
    have HI := aside' (And.intro hbk (And.intro hgr hft))
    have HGF := aside' hgf
    clear hgf
    by_cases hlt : k < Lr
    · have g1 : decide ((k : Int) < (Lr : Int)) = true := decide_eq_true (by omega)
      have g1n : decide (k < Lr) = true := decide_eq_true hlt
      obtain ⟨p, hp⟩ : ∃ p, qs[k]? = some p := ⟨_, List.getElem?_eq_getElem (by omega)⟩
      obtain ⟨r, cr, hr, hrl, hcr, e1, e2, e3⟩ := hbk.at hp
      injection hr with hr1 hr2 hr3
      subst hr1
      subst hr3
      obtain ⟨hlg, hL2⟩ := (hgr k p hp).2 (Nat.le_refl _)
      obtain ⟨v, lg⟩ := p
      simp only at e1 e2 hlg hL2
      subst hlg
      obtain ⟨A, n, c, rfl, HLn⟩ := own_form hL2.1
      have hn := HLn.out
      subst hn
      have hnb := HNS.out k
      have HP := aside' hp
      have i0 : (0 : Int) ≤ (k : Int) := by omega
      have i1 : (k : Int) < (Lr : Int) := by omega
      have hal := (Foot.refl (fun _ => False) wr).alloc (.cells #[.slice A (ns k) c, .slice none 0 0, .int .i64 ((k : Int) + 1)] 118)
      have HL0 := aside' (hL2.foot hal (fun _ _ h => h))
      have HBX := aside' (heap_alloc_new wr (.cells #[.slice A (ns k) c, .slice none 0 0, .int .i64 ((k : Int) + 1)] 118))
      have HB0 := aside' (And.intro (hbk.foot hal (fun h => h) (fun _ _ h => h)) (And.intro (hgr.foot hal (fun _ _ _ h => h) (fun j q hq => (hbk.fl j q hq).2.1)) (And.intro (hft.alloc (.cells #[.slice A (ns k) c, .slice none 0 0, .int .i64 ((k : Int) + 1)] 118)) (show wr.heap.size < (wr.alloc (.cells #[.slice A (ns k) c, .slice none 0 0, .int .i64 ((k : Int) + 1)] 118)).heap.size by simp))))
      have HV := aside' (And.intro (show ∀ q, (Value.slice A (ns k) c).ownBlock = some q → q < wr.heap.size from fun q hq => (own_lt' hL2.1 hq).2) (show 0 < ns k → ∃ g, A = some ⟨g, 0, none⟩ from fun h => by
        obtain ⟨g, c', hv, _⟩ := own_some hL2.1 h
        injection hv with hv1 _ _
        exact ⟨g, hv1⟩))
      have hnc : ns k ≤ c := by
        rcases hL2.1.2 with ⟨h1, _⟩ | ⟨g, cap, cur, h1, _, _, h4, _⟩
        · injection h1 with _ h2 _; omega
        · injection h1 with _ _ h3; omega
      clear hr2 hL2 hp HLn hal hbk hgr hft
      generalize hns : ns k = n at *
      go_upto_region 4 with fail
      generalize hWq : wr.alloc (.cells #[.slice A n c, .slice none 0 0, .int .i64 ((k : Int) + 1)] 118) = W0 at *
      have b0_ : W0.cell? ⟨wr.heap.size, 0, none⟩ = some (.slice A n c) := cellOf HBX.out 0
      clear e1 e2 e3 hbc hWq
      go_wp2_with fail
      clear b0_
      have HST := aside' (show GI W0 base A n c (mark k) W0 (.slice A n c) 0 from GI.start (F := G k) (i := k) HL0.out)
      generalize hq : wr.heap.size = q at *
      go_loopw [4, 5] (fun long kk wr => ∃ m : Nat, m ≤ 40 ∧ kk = .int .i64 m ∧ Aside (GI W0 base A n c (mark k) wr long m)) (fun _ kk _ => 40 - (intOf kk).toNat)
      case atStart => exact ⟨0, Nat.zero_le _, rfl, HST.out⟩
      case round =>
        obtain ⟨m, hm, rfl, HM⟩ := hrel
        obtain ⟨Al, Ll, cl, rfl, HLl⟩ := own_form HM.out.1
        have hLl := HLl.out
        subst hLl
        by_cases hlt2 : m < 40
        · have g2 : decide ((m : Int) < 40) = true := decide_eq_true (by omega)
          have hbx := HM.out.2.1.blk HBX.out (fun e => by have := HV.out.1 q e; omega)
          have b2 : wr.cell? ⟨q, 2, none⟩ = some (.int .i64 ((k : Int) + 1)) := cellOf hbx 2
          have HMK := aside' (mark_any k (by omega) wr)
          have hmb := mark_bd k
          have hsz := HM.out.2.1.size
          have HO := aside' ((show wr.ownsRow base 5 1 (.slice Al (n + m) cl) (List.replicate (n + m) (mark k)).length (nums .u8 (List.replicate (n + m) (mark k))) from by rw [List.length_replicate]; exact HM.out.1).alloc (.cells #[.int .u8 (mark k)] 5))
          have HRO := aside' (reads_one8 wr 5 (mark k))
          have hbs : base ≤ (wr.alloc (.cells #[.int .u8 (mark k)] 5)).heap.size := by have := HB0.out.2.2.1.size; simp; omega
          clear hbx HLl
          go_wp2_with fail
          refine Calls.mono HMK.out ?_
          rintro e w' ⟨rfl, hw'⟩
          have hw' := hw'.symm
          subst hw'
          go_wp2_with (at_builtin; refine append_row_far base rfl _ _ 24 5 .u8 1 rfl Tryz.underlying24 infoBY (by omega) (.slice Al (n + m) cl) (List.replicate (n + m) (mark k)) [mark k] _ 1 1 rfl rfl (by omega) HO.out HRO.out hbs (by simp; omega) ?_; intro v1 w1 hown1 hg1 hat1; have hG1 := HM.out.step (fun q' hq' => (by have := HV.out.1 q' hq'; have := HB0.out.2.2.2; omega)) HV.out.2 (by have h := hown1; simp only [List.length_append, List.length_replicate, List.length_singleton] at h; exact h) hg1 hat1; have HG1 := aside' hG1; obtain ⟨g1, k1, rfl, _, _, _, _⟩ := own_some hG1.1 (by omega); clear hown1 hg1 hat1 hG1)
          go_roundw
          case rel => exact ⟨m + 1, by omega, by go_num, HG1.out⟩
          case measure => (simp [intOf]; omega)
        · obtain rfl : m = 40 := by omega
          have g2 : decide (((40 : Nat) : Int) < 40) = false := by decide
          obtain ⟨hown, hft, hrd, hat⟩ := HM.out
          have hfl := HB0.out.1.fl
          have hvG := HL0.out.2
          have hbl := (Array.getElem?_eq_some_iff.1 HB0.out.1.hb).1
          have hrl0 := own_lt' HB0.out.1.hr (g := r) rfl
          have hbk : wr.heap[b]? = W0.heap[b]? := hft.block b hbl (fun e => (hfl k b (hvG b e)).2.2.1 rfl)
          have hrk : wr.heap[r]? = W0.heap[r]? := hft.block r hrl0.2 (fun e => (hfl k r (hvG r e)).2.2.2 rfl)
          obtain ⟨r', cr', hr', _, _, s1, s2, s3⟩ := HB0.out.1.at HP.out
          have er : r = r' := by
            have h' := congrArg Value.ownBlock hr'
            simpa [Value.ownBlock] using h'
          rw [← er] at s1 s2 s3
          clear er hr'
          have kb : wr.cell? ⟨b, 2, none⟩ = some (.slice (some ⟨r, 0, none⟩) Lr cr0) := (World.cell?_of_block (a := ⟨b, 2, none⟩) hbk).trans (cellOf HB0.out.1.hb 2)
          have kc : wr.cell? ⟨r, k * 3 + 1, none⟩ = some (.slice none 0 0) := (World.cell?_of_block (a := ⟨r, k * 3 + 1, none⟩) hrk).trans s2
          have kf : wr.frozen? ⟨r, k * 3 + 1, none⟩ = false := (World.frozen?_of_block (a := ⟨r, k * 3 + 1, none⟩) hrk).trans (by have h := HB0.out.1.hr; rw [hql] at h; exact h.frozenAt _)
          have hX : ∀ q', ((Value.slice Al (n + 40) cl).ownBlock = some q' ∧ W0.heap.size ≤ q') → base ≤ q' ∧ W0.heap.size ≤ q' ∧ q' < wr.heap.size := fun q' hq' => ⟨(own_lt' hown hq'.1).1, hq'.2, (own_lt' hown hq'.1).2⟩
          have hfr : Foot (fun q' => (Value.slice A n c).ownBlock = some q' ∨ q' = r) W0 (wr.setCell ⟨r, k * 3 + 1, none⟩ (.slice Al (n + 40) cl)) := (hft.mono (fun _ _ h => .inl h)).setCell (p := ⟨r, k * 3 + 1, none⟩) (.inl (.inr rfl)) _
          have hBk := HB0.out.1
          rw [← hql] at hBk
          have hB2 := hBk.long (W := wr) (X := fun q' => (Value.slice Al (n + 40) cl).ownBlock = some q' ∧ W0.heap.size ≤ q') (long := .slice Al (n + 40) cl) hbk hrk hft.size HP.out hX
          rw [hql] at hB2
          have hlr : ∀ q', (Value.slice Al (n + 40) cl).ownBlock = some q' → q' ≠ r := by
            intro q' hq'
            rcases hat with h | ⟨g, h, hge⟩
            · have := (hfl k q' (hvG q' (h ▸ hq'))).2.2.2
              exact fun e => this (by rw [e]; rfl)
            · rw [h] at hq'; injection hq' with hq'; omega
          have hL3 : L3 (wr.setCell ⟨r, k * 3 + 1, none⟩ (.slice Al (n + 40) cl)) base (fun q' => G k q' ∨ (k = k ∧ ((Value.slice Al (n + 40) cl).ownBlock = some q' ∧ W0.heap.size ≤ q'))) (.slice A n c) (.slice Al (n + 40) cl) (ns k) k := by
            rw [hns]
            refine ⟨own_foot hown ((Foot.refl (fun q' => q' = r) wr).setCell (p := ⟨r, k * 3 + 1, none⟩) (.inl rfl) _) hlr, fun q' hq' => ?_, A, c, rfl, hnc, reads_keep hrd (fun ad e hn0 => ?_), fun hn0 => ?_⟩
            · rcases hat with h | ⟨g, h, hge⟩
              · exact .inl (hvG q' (h ▸ hq'))
              · refine .inr ⟨rfl, hq', ?_⟩
                rw [h] at hq'; injection hq' with hq'; omega
            · obtain ⟨g, hg⟩ := HV.out.2 hn0
              rw [hg] at e
              injection e with e
              subst e
              have := (hfl k g (hvG g (by rw [hg]; rfl))).2.2.2
              exact Below.heap_setCell _ _ _ _ (fun e => this (by have e' : g = r := e; rw [e']; rfl))
            · obtain ⟨g, hg⟩ := HV.out.2 hn0
              exact ⟨g, hg, .inl (hvG g (by rw [hg]; rfl))⟩
          have hG2 := HB0.out.2.1.next (X := fun q' => (Value.slice Al (n + 40) cl).ownBlock = some q' ∧ W0.heap.size ≤ q') hfr (fun j q' hj hq' h => by
            rcases h with h | h
            · exact hj (HB0.out.1.fd j k q' hq' (hvG q' h))
            · exact (hfl j q' hq').2.2.2 (by rw [h]; rfl)) (fun j q' hq' => (hfl j q' hq').2.1) (by omega) hL3
          have HFIN := aside' (show ∃ ps' F', ps'.length = Lr ∧ Bk (wr.setCell ⟨r, k * 3 + 1, none⟩ (.slice Al (n + 40) cl)) base b (.slice (some ⟨r, 0, none⟩) Lr cr0) ps' F' ∧ Grow (wr.setCell ⟨r, k * 3 + 1, none⟩ (.slice Al (n + 40) cl)) base ps' ns F' (k + 1) ∧ Foot (fun q' => (Value.slice (some ⟨r, 0, none⟩) Lr cr0).ownBlock = some q' ∨ ∃ i, F i q') W (wr.setCell ⟨r, k * 3 + 1, none⟩ (.slice Al (n + 40) cl)) ∧ ∀ i q', F' i q' → F i q' ∨ W.heap.size ≤ q' from
            ⟨_, _, by rw [List.length_set]; exact hql, hB2, hG2, HB0.out.2.2.1.trans hfr (fun q' hq' => by
              rcases hq' with h | h
              · exact (HGF.out k q' (hvG q' h)).imp (fun h => .inr ⟨k, h⟩) id
              · rw [h]; exact .inl (.inl rfl)), fun i q' hq' => by
              rcases hq' with h | ⟨_, _, h⟩
              · exact HGF.out i q' h
              · exact .inr (Nat.le_trans HB0.out.2.2.1.size h)⟩)
          clear hown hft hrd hat hfl hvG hbl hrl0 hbk hrk s1 s2 s3 hX hfr hBk hB2 hlr hL3 hG2
          go_wp2
          go_roundw
          case rel => exact ⟨k + 1, by omega, by go_num, HFIN.out⟩
          case measure => (simp [intOf]; omega)
    · obtain rfl : k = Lr := by omega
      have g1 : decide ((k : Int) < (k : Int)) = false := decide_eq_false (by omega)
      have HF := aside' (show ∃ ps' F', ps'.length = k ∧ Bk wr base b (.slice Ar k cr0) ps' F' ∧ Grow wr base ps' ns F' k ∧ Foot (fun q => (Value.slice Ar k cr0).ownBlock = some q ∨ ∃ i, F i q) W wr from ⟨qs, G, hql, HI.out⟩)
      clear hbk hgr hft
      go_wp2
      go_end0
      exact ⟨⟨_, rfl⟩, HF.out⟩
end Go.Proofs.YtmoakgkoahjijaaGreatDoor

/- A region that draws its order, whose own operations only read: walked once, in a class of worlds that its callees stay in. -/
set_option linter.unusedVariables false
set_option linter.unusedSimpArgs false
namespace Go.Proofs.YtmoakgkoahjijaaGreatDoor
open Go.RowKit

theorem region_class {P : Program} (C : World → Prop) {id : Nat} {Q : Exit → Act → World → Prop} {a : Act} {w : World} {l : List Oper} (hm : P.follows .mixedOrders = true) (hB : Region.lexB .any l.toArray = true) (hC : C w.drew)
    (h : wpQuiet P l.toArray C (fun a' => ∀ w', C w' → Q .normal a' w') l a) : (Code.region id l.toArray true).wp P Q a w :=
  wp_region_quiet hm hB hC (by simpa using h)
end Go.Proofs.YtmoakgkoahjijaaGreatDoor

/- A book of bytes: all lists have their marks, and what was put behind each. -/
set_option linter.unusedVariables false
set_option linter.unusedSimpArgs false
namespace Go.Proofs.YtmoakgkoahjijaaGreatDoor
open Go.RowKit

set_option maxRecDepth 100000 in
set_option maxHeartbeats 3200000 in
theorem book_look (base b : Nat) (row : Value) (ps : List (Value × Value)) (ns : Nat → Nat) (F : Nat → Nat → Prop) (W : World) (h : Bk W base b row ps F) (hN : ps.length ≤ 1000000000) (hns : ∀ j, ns j ≤ 140737488355200) (h1 : Grow W base ps ns F ps.length) :
    Calls Tryz.prog 106 #[.pointer (some ⟨b, 0, none⟩)] W fun e w' => e = .returned (.bool true) ∧ Foot (fun _ => False) W w' := by
  have H0 := aside' (And.intro h h1)
  have HNS := aside' hns
  clear h h1 hns
  obtain ⟨N, hNe⟩ : ∃ N, N = ps.length := ⟨_, rfl⟩
  rw [← hNe] at hN
  have HNe := aside' hNe
  clear hNe
  go_enter Tryz.func106, Tryz.ntmps106
  go_wp2
  go_loopw [3] (fun i wr => ∃ k : Nat, k ≤ N ∧ i = .int .i64 k ∧ Aside (Foot (fun _ => False) W wr)) (fun i _ => N - (intOf i).toNat)
  case atStart => exact ⟨0, Nat.zero_le _, rfl, Foot.refl _ _⟩
  case round =>
    obtain ⟨k, hk, rfl, HI⟩ := hrel
    have hbk : Bk wr base b row ps F := H0.out.1.foot HI.out (fun h => h) (fun _ _ h => h)
    have hbc : wr.cell? ⟨b, 2, none⟩ = some row := cellOf hbk.hb 2
    obtain ⟨Ar, Lr, cr0, hrow, HLr⟩ := own_form hbk.hr
    have hLr := HLr.out.trans HNe.out.symm
    clear HLr
    subst hLr
    subst hrow
    by_cases hlt : k < Lr
    · have g1 : decide ((k : Int) < (Lr : Int)) = true := decide_eq_true (by omega)
      have g1n : decide (k < Lr) = true := decide_eq_true hlt
      obtain ⟨p, hp⟩ : ∃ p, ps[k]? = some p := ⟨_, List.getElem?_eq_getElem (by have := HNe.out; omega)⟩
      obtain ⟨r, cr, hr, hrl, hcr, e1, e2, e3⟩ := hbk.at hp
      injection hr with hr1 hr2 hr3
      subst hr1
      subst hr3
      have hL3 := ((H0.out.2 k p hp).1 (by have := HNe.out; omega)).foot HI.out (fun _ _ h => h) (fun q hq => (H0.out.1.fl k q hq).2.1)
      obtain ⟨v, lg⟩ := p
      simp only at e1 e2 hL3
      obtain ⟨hown, hlF, A, c, rfl, hnc, hrd, hA⟩ := hL3
      have hnb := HNS.out k
      obtain ⟨g, cl, rfl, hgb, hgl, hgc, _⟩ := own_some hown (by omega)
      have i0 : (0 : Int) ≤ (k : Int) := by omega
      have i1 : (k : Int) < (Lr : Int) := by omega
      have hal := (Foot.refl (fun _ => False) wr).alloc (.cells #[.slice A (ns k) c, .slice (some ⟨g, 0, none⟩) (ns k + 40) cl, .int .i64 ((k : Int) + 1)] 118)
      have HBX := aside' (heap_alloc_new wr (.cells #[.slice A (ns k) c, .slice (some ⟨g, 0, none⟩) (ns k + 40) cl, .int .i64 ((k : Int) + 1)] 118))
      have HF1 := aside' (HI.out.alloc (.cells #[.slice A (ns k) c, .slice (some ⟨g, 0, none⟩) (ns k + 40) cl, .int .i64 ((k : Int) + 1)] 118))
      have hrd1 : Reads (wr.alloc (.cells #[.slice A (ns k) c, .slice (some ⟨g, 0, none⟩) (ns k + 40) cl, .int .i64 ((k : Int) + 1)] 118)) .u8 A (ns k) (List.replicate (ns k) (mark k)) := reads_keep hrd (fun ad e hn0 => by
        obtain ⟨g2, hg2, hF2⟩ := hA hn0
        rw [hg2] at e
        injection e with e
        subst e
        have h3 := (H0.out.1.fl k g2 hF2).2.1
        have hs := HI.out.size
        exact Below.heap_alloc wr _ g2 (by omega))
      have HOW := aside' (And.intro (own_foot hown hal (fun _ _ h => h)) (And.intro hrd1 hA))
      clear hr2 hown hlF hrd hA hp hal hrd1
      generalize ns k = n at *
      go_upto_region 5 with fail
      generalize wr.alloc (.cells #[.slice A n c, .slice (some ⟨g, 0, none⟩) (n + 40) cl, .int .i64 ((k : Int) + 1)] 118) = W0 at *
      have b0 : W0.cell? ⟨wr.heap.size, 0, none⟩ = some (.slice A n c) := cellOf HBX.out 0
      have b1 : W0.cell? ⟨wr.heap.size, 1, none⟩ = some (.slice (some ⟨g, 0, none⟩) (n + 40) cl) := cellOf HBX.out 1
      have b2 : W0.cell? ⟨wr.heap.size, 2, none⟩ = some (.int .i64 ((k : Int) + 1)) := cellOf HBX.out 2
      have t1 : (((n + 40 : Nat) : Int) != (n : Int) + 40) = false := by simp
      have t2 : (((n : Int) + 40) != (n : Int) + 40) = false := by simp
      clear e1 e2 e3 hbc hbk
      generalize wr.heap.size = q at *
      go_wp2_with fail
      go_loopw [5] (fun kk wr => ∃ m : Nat, m ≤ n + 40 ∧ kk = .int .i64 m ∧ Aside (∃ d, wr = W0.drewN d)) (fun kk _ => n + 40 - (intOf kk).toNat)
      case atStart => exact ⟨0, Nat.zero_le _, rfl, 0, rfl⟩
      case round =>
        obtain ⟨m, hm, rfl, HM⟩ := hrel
        obtain ⟨dd, rfl⟩ := HM.out
        have d0 : (W0.drewN dd).cell? ⟨q, 0, none⟩ = some (.slice A n c) := b0
        have d1 : (W0.drewN dd).cell? ⟨q, 1, none⟩ = some (.slice (some ⟨g, 0, none⟩) (n + 40) cl) := b1
        have d2 : (W0.drewN dd).cell? ⟨q, 2, none⟩ = some (.int .i64 ((k : Int) + 1)) := b2
        by_cases hlt2 : m < n + 40
        · have g2 : decide ((m : Int) < ((n + 40 : Nat) : Int)) = true := decide_eq_true (by omega)
          have g3 : decide ((m : Int) < (n : Int) + 40) = true := decide_eq_true (by omega)
          have g4 : decide (m < n + 40) = true := decide_eq_true hlt2
          have hIS := fun (V : World) => is_any k (by omega) V
          have HIS := aside' hIS
          have cg : W0.cell? ⟨g, m, none⟩ = some (.int .u8 (mark k)) := by
            rw [own_at HOW.out.1 m hlt2]
            simp [List.getD_eq_getElem?_getD, List.getElem?_replicate, hlt2]
          have j0 : (0 : Int) ≤ (m : Int) := by omega
          have j1 : (m : Int) < (n : Int) + 40 := by omega
          have j2 : (m : Int) < ((n + 40 : Nat) : Int) := by omega
          clear hIS HM
          by_cases hlt3 : m < n
          · have g5 : decide ((m : Int) < (n : Int)) = true := decide_eq_true (by omega)
            have g6 : decide (m < n) = true := decide_eq_true hlt3
            obtain ⟨gA, hgA, _⟩ := HOW.out.2.2 (by omega)
            obtain ⟨ad, had, hcs⟩ := HOW.out.2.1.2.2 (by omega)
            rw [hgA] at had
            injection had with had
            subst had
            have cA : W0.cell? ⟨gA, m, none⟩ = some (.int .u8 (mark k)) := by
              have h := hcs m hlt3
              rw [add_plain] at h
              rw [h]
              simp [List.getD_eq_getElem?_getD, List.getElem?_replicate, hlt3]
            subst hgA
            have j3 : (m : Int) < (n : Int) := by omega
            clear hcs
            generalize mark k = mk at *
            go_wp2_with fail
            refine region_class (fun V => ∃ e, V = W0.drewN e) (by kernel_rfl) (by kernel_rfl) ⟨dd + 1, rfl⟩ ?_
            repeat
              (first
                | go_big_quiet_skip
                | (go_big_quiet_want; first
                    | (go_big_quiet_op; go_big_quiet_on)
                    | (unfold Oper.quiet; apply Exists.intro; refine ⟨fun V hV => ?_, ?_⟩
                       · obtain ⟨ee, rfl⟩ := hV
                         go_simp
                         first
                           | with_reducible rfl
                           | (go_at_call 177; refine Calls.mono (HIS.out _) ?_; rintro e w5 ⟨he5, hw5⟩; exact ⟨he5, _, hw5⟩)
                       go_simp
                       go_big_quiet_on)))
            refine wpQuiet_nil ?_
            rintro V ⟨ee, rfl⟩
            go_wp2
            go_roundw
            case rel => exact ⟨m + 1, by omega, by go_num, _, rfl⟩
            case measure => (simp [intOf]; omega)
          · have g5 : decide ((m : Int) < (n : Int)) = false := decide_eq_false (by omega)
            have g6 : decide (m < n) = false := decide_eq_false hlt3
            generalize mark k = mk at *
            go_wp2_with fail
            refine region_class (fun V => ∃ e, V = W0.drewN e) (by kernel_rfl) (by kernel_rfl) ⟨dd + 1, rfl⟩ ?_
            repeat
              (first
                | go_big_quiet_skip
                | (go_big_quiet_want; first
                    | (go_big_quiet_op; go_big_quiet_on)
                    | (unfold Oper.quiet; apply Exists.intro; refine ⟨fun V hV => ?_, ?_⟩
                       · obtain ⟨ee, rfl⟩ := hV
                         go_simp
                         first
                           | with_reducible rfl
                           | (go_at_call 177; refine Calls.mono (HIS.out _) ?_; rintro e w5 ⟨he5, hw5⟩; exact ⟨he5, _, hw5⟩)
                       go_simp
                       go_big_quiet_on)))
            refine wpQuiet_nil ?_
            rintro V ⟨ee, rfl⟩
            go_wp2
            go_roundw
            case rel => exact ⟨m + 1, by omega, by go_num, _, rfl⟩
            case measure => (simp [intOf]; omega)
        · obtain rfl : m = n + 40 := by omega
          have g2 : decide (((n + 40 : Nat) : Int) < ((n + 40 : Nat) : Int)) = false := decide_eq_false (by omega)
          have g3 : decide (((n + 40 : Nat) : Int) < (n : Int) + 40) = false := decide_eq_false (by omega)
          have g4 : decide ((n : Int) + 40 < (n : Int) + 40) = false := decide_eq_false (by omega)
          have HFIN := aside' (HF1.out.drewN dd)
          clear HM
          go_wp2
          go_roundw
          case rel => exact ⟨k + 1, by omega, by go_num, HFIN.out⟩
          case measure => (simp [intOf]; omega)
    · obtain rfl : k = Lr := by omega
      have g1 : decide ((k : Int) < (k : Int)) = false := decide_eq_false (by omega)
      clear hbk
      go_wp2
      go_ret
      exact ⟨rfl, HI.out⟩
end Go.Proofs.YtmoakgkoahjijaaGreatDoor

/- A book of which nothing of a kind is held: fill does nothing. -/
set_option linter.unusedVariables false
set_option linter.unusedSimpArgs false
namespace Go.Proofs.YtmoakgkoahjijaaGreatDoor
open Go.RowKit

theorem E_fillInt (b : Nat) (W : World) (h : W.cell? ⟨b, 1, none⟩ = some (.slice none 0 0)) : Calls Tryz.prog 45 #[.pointer (some ⟨b, 0, none⟩)] W fun e w' => (∃ v, e = .returned v) ∧ w' = W := by
  go_enter Tryz.func45, Tryz.ntmps45
  go_wp2
  go_loop [2] (fun i => i = .int .i64 0) (fun _ => 0)
  case atStart => rfl
  case round =>
    obtain rfl := hrel
    go_wp2
    go_end0
    exact ⟨⟨_, rfl⟩, rfl⟩
theorem E_fillKind (b : Nat) (W : World) (h : W.cell? ⟨b, 3, none⟩ = some (.slice none 0 0)) : Calls Tryz.prog 47 #[.pointer (some ⟨b, 0, none⟩)] W fun e w' => (∃ v, e = .returned v) ∧ w' = W := by
  go_enter Tryz.func47, Tryz.ntmps47
  go_wp2
  go_loop [2] (fun i => i = .int .i64 0) (fun _ => 0)
  case atStart => rfl
  case round =>
    obtain rfl := hrel
    go_wp2
    go_end0
    exact ⟨⟨_, rfl⟩, rfl⟩
theorem E_fillText (b : Nat) (W : World) (h : W.cell? ⟨b, 4, none⟩ = some (.slice none 0 0)) : Calls Tryz.prog 48 #[.pointer (some ⟨b, 0, none⟩)] W fun e w' => (∃ v, e = .returned v) ∧ w' = W := by
  go_enter Tryz.func48, Tryz.ntmps48
  go_wp2
  go_loop [2] (fun i => i = .int .i64 0) (fun _ => 0)
  case atStart => rfl
  case round =>
    obtain rfl := hrel
    go_wp2
    go_end0
    exact ⟨⟨_, rfl⟩, rfl⟩
theorem E_fillBlob (b : Nat) (W : World) (h : W.cell? ⟨b, 5, none⟩ = some (.slice none 0 0)) : Calls Tryz.prog 49 #[.pointer (some ⟨b, 0, none⟩)] W fun e w' => (∃ v, e = .returned v) ∧ w' = W := by
  go_enter Tryz.func49, Tryz.ntmps49
  go_wp2
  go_loop [2] (fun i => i = .int .i64 0) (fun _ => 0)
  case atStart => rfl
  case round =>
    obtain rfl := hrel
    go_wp2
    go_end0
    exact ⟨⟨_, rfl⟩, rfl⟩
theorem E_fillNumber (b : Nat) (W : World) (h : W.cell? ⟨b, 6, none⟩ = some (.slice none 0 0)) : Calls Tryz.prog 50 #[.pointer (some ⟨b, 0, none⟩)] W fun e w' => (∃ v, e = .returned v) ∧ w' = W := by
  go_enter Tryz.func50, Tryz.ntmps50
  go_wp2
  go_loop [2] (fun i => i = .int .i64 0) (fun _ => 0)
  case atStart => rfl
  case round =>
    obtain rfl := hrel
    go_wp2
    go_end0
    exact ⟨⟨_, rfl⟩, rfl⟩
theorem E_fillWord (b : Nat) (W : World) (h : W.cell? ⟨b, 7, none⟩ = some (.slice none 0 0)) : Calls Tryz.prog 51 #[.pointer (some ⟨b, 0, none⟩)] W fun e w' => (∃ v, e = .returned v) ∧ w' = W := by
  go_enter Tryz.func51, Tryz.ntmps51
  go_wp2
  go_loop [2] (fun i => i = .int .i64 0) (fun _ => 0)
  case atStart => rfl
  case round =>
    obtain rfl := hrel
    go_wp2
    go_end0
    exact ⟨⟨_, rfl⟩, rfl⟩
theorem E_fillField (b : Nat) (W : World) (h : W.cell? ⟨b, 8, none⟩ = some (.slice none 0 0)) : Calls Tryz.prog 52 #[.pointer (some ⟨b, 0, none⟩)] W fun e w' => (∃ v, e = .returned v) ∧ w' = W := by
  go_enter Tryz.func52, Tryz.ntmps52
  go_wp2
  go_loop [2] (fun i => i = .int .i64 0) (fun _ => 0)
  case atStart => rfl
  case round =>
    obtain rfl := hrel
    go_wp2
    go_end0
    exact ⟨⟨_, rfl⟩, rfl⟩
theorem E_fillMatch (b : Nat) (W : World) (h : W.cell? ⟨b, 9, none⟩ = some (.slice none 0 0)) : Calls Tryz.prog 53 #[.pointer (some ⟨b, 0, none⟩)] W fun e w' => (∃ v, e = .returned v) ∧ w' = W := by
  go_enter Tryz.func53, Tryz.ntmps53
  go_wp2
  go_loop [2] (fun i => i = .int .i64 0) (fun _ => 0)
  case atStart => rfl
  case round =>
    obtain rfl := hrel
    go_wp2
    go_end0
    exact ⟨⟨_, rfl⟩, rfl⟩
theorem E_fillArr (b : Nat) (W : World) (h : W.cell? ⟨b, 10, none⟩ = some (.slice none 0 0)) : Calls Tryz.prog 54 #[.pointer (some ⟨b, 0, none⟩)] W fun e w' => (∃ v, e = .returned v) ∧ w' = W := by
  go_enter Tryz.func54, Tryz.ntmps54
  go_wp2
  go_loop [2] (fun i => i = .int .i64 0) (fun _ => 0)
  case atStart => rfl
  case round =>
    obtain rfl := hrel
    go_wp2
    go_end0
    exact ⟨⟨_, rfl⟩, rfl⟩
theorem E_fillCase (b : Nat) (W : World) (h : W.cell? ⟨b, 11, none⟩ = some (.slice none 0 0)) : Calls Tryz.prog 55 #[.pointer (some ⟨b, 0, none⟩)] W fun e w' => (∃ v, e = .returned v) ∧ w' = W := by
  go_enter Tryz.func55, Tryz.ntmps55
  go_wp2
  go_loop [2] (fun i => i = .int .i64 0) (fun _ => 0)
  case atStart => rfl
  case round =>
    obtain rfl := hrel
    go_wp2
    go_end0
    exact ⟨⟨_, rfl⟩, rfl⟩
theorem E_fillJump (b : Nat) (W : World) (h : W.cell? ⟨b, 12, none⟩ = some (.slice none 0 0)) : Calls Tryz.prog 56 #[.pointer (some ⟨b, 0, none⟩)] W fun e w' => (∃ v, e = .returned v) ∧ w' = W := by
  go_enter Tryz.func56, Tryz.ntmps56
  go_wp2
  go_loop [2] (fun i => i = .int .i64 0) (fun _ => 0)
  case atStart => rfl
  case round =>
    obtain rfl := hrel
    go_wp2
    go_end0
    exact ⟨⟨_, rfl⟩, rfl⟩
theorem E_fillExpr (b : Nat) (W : World) (h : W.cell? ⟨b, 13, none⟩ = some (.slice none 0 0)) : Calls Tryz.prog 57 #[.pointer (some ⟨b, 0, none⟩)] W fun e w' => (∃ v, e = .returned v) ∧ w' = W := by
  go_enter Tryz.func57, Tryz.ntmps57
  go_wp2
  go_loop [2] (fun i => i = .int .i64 0) (fun _ => 0)
  case atStart => rfl
  case round =>
    obtain rfl := hrel
    go_wp2
    go_end0
    exact ⟨⟨_, rfl⟩, rfl⟩
theorem E_fillStmt (b : Nat) (W : World) (h : W.cell? ⟨b, 14, none⟩ = some (.slice none 0 0)) : Calls Tryz.prog 58 #[.pointer (some ⟨b, 0, none⟩)] W fun e w' => (∃ v, e = .returned v) ∧ w' = W := by
  go_enter Tryz.func58, Tryz.ntmps58
  go_wp2
  go_loop [2] (fun i => i = .int .i64 0) (fun _ => 0)
  case atStart => rfl
  case round =>
    obtain rfl := hrel
    go_wp2
    go_end0
    exact ⟨⟨_, rfl⟩, rfl⟩
theorem E_fillState (b : Nat) (W : World) (h : W.cell? ⟨b, 15, none⟩ = some (.slice none 0 0)) : Calls Tryz.prog 59 #[.pointer (some ⟨b, 0, none⟩)] W fun e w' => (∃ v, e = .returned v) ∧ w' = W := by
  go_enter Tryz.func59, Tryz.ntmps59
  go_wp2
  go_loop [2] (fun i => i = .int .i64 0) (fun _ => 0)
  case atStart => rfl
  case round =>
    obtain rfl := hrel
    go_wp2
    go_end0
    exact ⟨⟨_, rfl⟩, rfl⟩
theorem E_fillKey (b : Nat) (W : World) (h : W.cell? ⟨b, 16, none⟩ = some (.slice none 0 0)) : Calls Tryz.prog 60 #[.pointer (some ⟨b, 0, none⟩)] W fun e w' => (∃ v, e = .returned v) ∧ w' = W := by
  go_enter Tryz.func60, Tryz.ntmps60
  go_wp2
  go_loop [2] (fun i => i = .int .i64 0) (fun _ => 0)
  case atStart => rfl
  case round =>
    obtain rfl := hrel
    go_wp2
    go_end0
    exact ⟨⟨_, rfl⟩, rfl⟩
theorem E_fillDecl (b : Nat) (W : World) (h : W.cell? ⟨b, 17, none⟩ = some (.slice none 0 0)) : Calls Tryz.prog 61 #[.pointer (some ⟨b, 0, none⟩)] W fun e w' => (∃ v, e = .returned v) ∧ w' = W := by
  go_enter Tryz.func61, Tryz.ntmps61
  go_wp2
  go_loop [2] (fun i => i = .int .i64 0) (fun _ => 0)
  case atStart => rfl
  case round =>
    obtain rfl := hrel
    go_wp2
    go_end0
    exact ⟨⟨_, rfl⟩, rfl⟩
theorem E_fillEntry (b : Nat) (W : World) (h : W.cell? ⟨b, 18, none⟩ = some (.slice none 0 0)) : Calls Tryz.prog 62 #[.pointer (some ⟨b, 0, none⟩)] W fun e w' => (∃ v, e = .returned v) ∧ w' = W := by
  go_enter Tryz.func62, Tryz.ntmps62
  go_wp2
  go_loop [2] (fun i => i = .int .i64 0) (fun _ => 0)
  case atStart => rfl
  case round =>
    obtain rfl := hrel
    go_wp2
    go_end0
    exact ⟨⟨_, rfl⟩, rfl⟩
theorem E_fillGroup (b : Nat) (W : World) (h : W.cell? ⟨b, 19, none⟩ = some (.slice none 0 0)) : Calls Tryz.prog 63 #[.pointer (some ⟨b, 0, none⟩)] W fun e w' => (∃ v, e = .returned v) ∧ w' = W := by
  go_enter Tryz.func63, Tryz.ntmps63
  go_wp2
  go_loop [2] (fun i => i = .int .i64 0) (fun _ => 0)
  case atStart => rfl
  case round =>
    obtain rfl := hrel
    go_wp2
    go_end0
    exact ⟨⟨_, rfl⟩, rfl⟩
theorem E_fillHead (b : Nat) (W : World) (h : W.cell? ⟨b, 20, none⟩ = some (.slice none 0 0)) : Calls Tryz.prog 64 #[.pointer (some ⟨b, 0, none⟩)] W fun e w' => (∃ v, e = .returned v) ∧ w' = W := by
  go_enter Tryz.func64, Tryz.ntmps64
  go_wp2
  go_loop [2] (fun i => i = .int .i64 0) (fun _ => 0)
  case atStart => rfl
  case round =>
    obtain rfl := hrel
    go_wp2
    go_end0
    exact ⟨⟨_, rfl⟩, rfl⟩
theorem E_fillNode (b : Nat) (W : World) (h : W.cell? ⟨b, 21, none⟩ = some (.slice none 0 0)) : Calls Tryz.prog 65 #[.pointer (some ⟨b, 0, none⟩)] W fun e w' => (∃ v, e = .returned v) ∧ w' = W := by
  go_enter Tryz.func65, Tryz.ntmps65
  go_wp2
  go_loop [2] (fun i => i = .int .i64 0) (fun _ => 0)
  case atStart => rfl
  case round =>
    obtain rfl := hrel
    go_wp2
    go_end0
    exact ⟨⟨_, rfl⟩, rfl⟩
theorem E_fillAct (b : Nat) (W : World) (h : W.cell? ⟨b, 22, none⟩ = some (.slice none 0 0)) : Calls Tryz.prog 66 #[.pointer (some ⟨b, 0, none⟩)] W fun e w' => (∃ v, e = .returned v) ∧ w' = W := by
  go_enter Tryz.func66, Tryz.ntmps66
  go_wp2
  go_loop [2] (fun i => i = .int .i64 0) (fun _ => 0)
  case atStart => rfl
  case round =>
    obtain rfl := hrel
    go_wp2
    go_end0
    exact ⟨⟨_, rfl⟩, rfl⟩
theorem E_fillTable (b : Nat) (W : World) (h : W.cell? ⟨b, 23, none⟩ = some (.slice none 0 0)) : Calls Tryz.prog 67 #[.pointer (some ⟨b, 0, none⟩)] W fun e w' => (∃ v, e = .returned v) ∧ w' = W := by
  go_enter Tryz.func67, Tryz.ntmps67
  go_wp2
  go_loop [2] (fun i => i = .int .i64 0) (fun _ => 0)
  case atStart => rfl
  case round =>
    obtain rfl := hrel
    go_wp2
    go_end0
    exact ⟨⟨_, rfl⟩, rfl⟩
theorem E_fillIns (b : Nat) (W : World) (h : W.cell? ⟨b, 24, none⟩ = some (.slice none 0 0)) : Calls Tryz.prog 68 #[.pointer (some ⟨b, 0, none⟩)] W fun e w' => (∃ v, e = .returned v) ∧ w' = W := by
  go_enter Tryz.func68, Tryz.ntmps68
  go_wp2
  go_loop [2] (fun i => i = .int .i64 0) (fun _ => 0)
  case atStart => rfl
  case round =>
    obtain rfl := hrel
    go_wp2
    go_end0
    exact ⟨⟨_, rfl⟩, rfl⟩
theorem E_fillEffect (b : Nat) (W : World) (h : W.cell? ⟨b, 25, none⟩ = some (.slice none 0 0)) : Calls Tryz.prog 69 #[.pointer (some ⟨b, 0, none⟩)] W fun e w' => (∃ v, e = .returned v) ∧ w' = W := by
  go_enter Tryz.func69, Tryz.ntmps69
  go_wp2
  go_loop [2] (fun i => i = .int .i64 0) (fun _ => 0)
  case atStart => rfl
  case round =>
    obtain rfl := hrel
    go_wp2
    go_end0
    exact ⟨⟨_, rfl⟩, rfl⟩
theorem E_fillUpdate (b : Nat) (W : World) (h : W.cell? ⟨b, 26, none⟩ = some (.slice none 0 0)) : Calls Tryz.prog 70 #[.pointer (some ⟨b, 0, none⟩)] W fun e w' => (∃ v, e = .returned v) ∧ w' = W := by
  go_enter Tryz.func70, Tryz.ntmps70
  go_wp2
  go_loop [2] (fun i => i = .int .i64 0) (fun _ => 0)
  case atStart => rfl
  case round =>
    obtain rfl := hrel
    go_wp2
    go_end0
    exact ⟨⟨_, rfl⟩, rfl⟩
theorem E_fillEvent (b : Nat) (W : World) (h : W.cell? ⟨b, 27, none⟩ = some (.slice none 0 0)) : Calls Tryz.prog 71 #[.pointer (some ⟨b, 0, none⟩)] W fun e w' => (∃ v, e = .returned v) ∧ w' = W := by
  go_enter Tryz.func71, Tryz.ntmps71
  go_wp2
  go_loop [2] (fun i => i = .int .i64 0) (fun _ => 0)
  case atStart => rfl
  case round =>
    obtain rfl := hrel
    go_wp2
    go_end0
    exact ⟨⟨_, rfl⟩, rfl⟩
theorem E_fillOut (b : Nat) (W : World) (h : W.cell? ⟨b, 28, none⟩ = some (.slice none 0 0)) : Calls Tryz.prog 72 #[.pointer (some ⟨b, 0, none⟩)] W fun e w' => (∃ v, e = .returned v) ∧ w' = W := by
  go_enter Tryz.func72, Tryz.ntmps72
  go_wp2
  go_loop [2] (fun i => i = .int .i64 0) (fun _ => 0)
  case atStart => rfl
  case round =>
    obtain rfl := hrel
    go_wp2
    go_end0
    exact ⟨⟨_, rfl⟩, rfl⟩
theorem E_fillRow (b : Nat) (W : World) (h : W.cell? ⟨b, 29, none⟩ = some (.slice none 0 0)) : Calls Tryz.prog 73 #[.pointer (some ⟨b, 0, none⟩)] W fun e w' => (∃ v, e = .returned v) ∧ w' = W := by
  go_enter Tryz.func73, Tryz.ntmps73
  go_wp2
  go_loop [2] (fun i => i = .int .i64 0) (fun _ => 0)
  case atStart => rfl
  case round =>
    obtain rfl := hrel
    go_wp2
    go_end0
    exact ⟨⟨_, rfl⟩, rfl⟩
theorem E_fillArray (b : Nat) (W : World) (h : W.cell? ⟨b, 30, none⟩ = some (.slice none 0 0)) : Calls Tryz.prog 74 #[.pointer (some ⟨b, 0, none⟩)] W fun e w' => (∃ v, e = .returned v) ∧ w' = W := by
  go_enter Tryz.func74, Tryz.ntmps74
  go_wp2
  go_loop [2] (fun i => i = .int .i64 0) (fun _ => 0)
  case atStart => rfl
  case round =>
    obtain rfl := hrel
    go_wp2
    go_end0
    exact ⟨⟨_, rfl⟩, rfl⟩
end Go.Proofs.YtmoakgkoahjijaaGreatDoor

/- A book of which nothing of a kind is held: grow does nothing. -/
set_option linter.unusedVariables false
set_option linter.unusedSimpArgs false
namespace Go.Proofs.YtmoakgkoahjijaaGreatDoor
open Go.RowKit

theorem E_growInt (b : Nat) (W : World) (h : W.cell? ⟨b, 1, none⟩ = some (.slice none 0 0)) : Calls Tryz.prog 75 #[.pointer (some ⟨b, 0, none⟩)] W fun e w' => (∃ v, e = .returned v) ∧ w' = W := by
  go_enter Tryz.func75, Tryz.ntmps75
  go_wp2
  go_loop [2] (fun i => i = .int .i64 0) (fun _ => 0)
  case atStart => rfl
  case round =>
    obtain rfl := hrel
    go_wp2
    go_end0
    exact ⟨⟨_, rfl⟩, rfl⟩
theorem E_growKind (b : Nat) (W : World) (h : W.cell? ⟨b, 3, none⟩ = some (.slice none 0 0)) : Calls Tryz.prog 77 #[.pointer (some ⟨b, 0, none⟩)] W fun e w' => (∃ v, e = .returned v) ∧ w' = W := by
  go_enter Tryz.func77, Tryz.ntmps77
  go_wp2
  go_loop [2] (fun i => i = .int .i64 0) (fun _ => 0)
  case atStart => rfl
  case round =>
    obtain rfl := hrel
    go_wp2
    go_end0
    exact ⟨⟨_, rfl⟩, rfl⟩
theorem E_growText (b : Nat) (W : World) (h : W.cell? ⟨b, 4, none⟩ = some (.slice none 0 0)) : Calls Tryz.prog 78 #[.pointer (some ⟨b, 0, none⟩)] W fun e w' => (∃ v, e = .returned v) ∧ w' = W := by
  go_enter Tryz.func78, Tryz.ntmps78
  go_wp2
  go_loop [2] (fun i => i = .int .i64 0) (fun _ => 0)
  case atStart => rfl
  case round =>
    obtain rfl := hrel
    go_wp2
    go_end0
    exact ⟨⟨_, rfl⟩, rfl⟩
theorem E_growBlob (b : Nat) (W : World) (h : W.cell? ⟨b, 5, none⟩ = some (.slice none 0 0)) : Calls Tryz.prog 79 #[.pointer (some ⟨b, 0, none⟩)] W fun e w' => (∃ v, e = .returned v) ∧ w' = W := by
  go_enter Tryz.func79, Tryz.ntmps79
  go_wp2
  go_loop [2] (fun i => i = .int .i64 0) (fun _ => 0)
  case atStart => rfl
  case round =>
    obtain rfl := hrel
    go_wp2
    go_end0
    exact ⟨⟨_, rfl⟩, rfl⟩
theorem E_growNumber (b : Nat) (W : World) (h : W.cell? ⟨b, 6, none⟩ = some (.slice none 0 0)) : Calls Tryz.prog 80 #[.pointer (some ⟨b, 0, none⟩)] W fun e w' => (∃ v, e = .returned v) ∧ w' = W := by
  go_enter Tryz.func80, Tryz.ntmps80
  go_wp2
  go_loop [2] (fun i => i = .int .i64 0) (fun _ => 0)
  case atStart => rfl
  case round =>
    obtain rfl := hrel
    go_wp2
    go_end0
    exact ⟨⟨_, rfl⟩, rfl⟩
theorem E_growWord (b : Nat) (W : World) (h : W.cell? ⟨b, 7, none⟩ = some (.slice none 0 0)) : Calls Tryz.prog 81 #[.pointer (some ⟨b, 0, none⟩)] W fun e w' => (∃ v, e = .returned v) ∧ w' = W := by
  go_enter Tryz.func81, Tryz.ntmps81
  go_wp2
  go_loop [2] (fun i => i = .int .i64 0) (fun _ => 0)
  case atStart => rfl
  case round =>
    obtain rfl := hrel
    go_wp2
    go_end0
    exact ⟨⟨_, rfl⟩, rfl⟩
theorem E_growField (b : Nat) (W : World) (h : W.cell? ⟨b, 8, none⟩ = some (.slice none 0 0)) : Calls Tryz.prog 82 #[.pointer (some ⟨b, 0, none⟩)] W fun e w' => (∃ v, e = .returned v) ∧ w' = W := by
  go_enter Tryz.func82, Tryz.ntmps82
  go_wp2
  go_loop [2] (fun i => i = .int .i64 0) (fun _ => 0)
  case atStart => rfl
  case round =>
    obtain rfl := hrel
    go_wp2
    go_end0
    exact ⟨⟨_, rfl⟩, rfl⟩
theorem E_growMatch (b : Nat) (W : World) (h : W.cell? ⟨b, 9, none⟩ = some (.slice none 0 0)) : Calls Tryz.prog 83 #[.pointer (some ⟨b, 0, none⟩)] W fun e w' => (∃ v, e = .returned v) ∧ w' = W := by
  go_enter Tryz.func83, Tryz.ntmps83
  go_wp2
  go_loop [2] (fun i => i = .int .i64 0) (fun _ => 0)
  case atStart => rfl
  case round =>
    obtain rfl := hrel
    go_wp2
    go_end0
    exact ⟨⟨_, rfl⟩, rfl⟩
theorem E_growArr (b : Nat) (W : World) (h : W.cell? ⟨b, 10, none⟩ = some (.slice none 0 0)) : Calls Tryz.prog 84 #[.pointer (some ⟨b, 0, none⟩)] W fun e w' => (∃ v, e = .returned v) ∧ w' = W := by
  go_enter Tryz.func84, Tryz.ntmps84
  go_wp2
  go_loop [2] (fun i => i = .int .i64 0) (fun _ => 0)
  case atStart => rfl
  case round =>
    obtain rfl := hrel
    go_wp2
    go_end0
    exact ⟨⟨_, rfl⟩, rfl⟩
theorem E_growCase (b : Nat) (W : World) (h : W.cell? ⟨b, 11, none⟩ = some (.slice none 0 0)) : Calls Tryz.prog 85 #[.pointer (some ⟨b, 0, none⟩)] W fun e w' => (∃ v, e = .returned v) ∧ w' = W := by
  go_enter Tryz.func85, Tryz.ntmps85
  go_wp2
  go_loop [2] (fun i => i = .int .i64 0) (fun _ => 0)
  case atStart => rfl
  case round =>
    obtain rfl := hrel
    go_wp2
    go_end0
    exact ⟨⟨_, rfl⟩, rfl⟩
theorem E_growJump (b : Nat) (W : World) (h : W.cell? ⟨b, 12, none⟩ = some (.slice none 0 0)) : Calls Tryz.prog 86 #[.pointer (some ⟨b, 0, none⟩)] W fun e w' => (∃ v, e = .returned v) ∧ w' = W := by
  go_enter Tryz.func86, Tryz.ntmps86
  go_wp2
  go_loop [2] (fun i => i = .int .i64 0) (fun _ => 0)
  case atStart => rfl
  case round =>
    obtain rfl := hrel
    go_wp2
    go_end0
    exact ⟨⟨_, rfl⟩, rfl⟩
theorem E_growExpr (b : Nat) (W : World) (h : W.cell? ⟨b, 13, none⟩ = some (.slice none 0 0)) : Calls Tryz.prog 87 #[.pointer (some ⟨b, 0, none⟩)] W fun e w' => (∃ v, e = .returned v) ∧ w' = W := by
  go_enter Tryz.func87, Tryz.ntmps87
  go_wp2
  go_loop [2] (fun i => i = .int .i64 0) (fun _ => 0)
  case atStart => rfl
  case round =>
    obtain rfl := hrel
    go_wp2
    go_end0
    exact ⟨⟨_, rfl⟩, rfl⟩
theorem E_growStmt (b : Nat) (W : World) (h : W.cell? ⟨b, 14, none⟩ = some (.slice none 0 0)) : Calls Tryz.prog 88 #[.pointer (some ⟨b, 0, none⟩)] W fun e w' => (∃ v, e = .returned v) ∧ w' = W := by
  go_enter Tryz.func88, Tryz.ntmps88
  go_wp2
  go_loop [2] (fun i => i = .int .i64 0) (fun _ => 0)
  case atStart => rfl
  case round =>
    obtain rfl := hrel
    go_wp2
    go_end0
    exact ⟨⟨_, rfl⟩, rfl⟩
theorem E_growState (b : Nat) (W : World) (h : W.cell? ⟨b, 15, none⟩ = some (.slice none 0 0)) : Calls Tryz.prog 89 #[.pointer (some ⟨b, 0, none⟩)] W fun e w' => (∃ v, e = .returned v) ∧ w' = W := by
  go_enter Tryz.func89, Tryz.ntmps89
  go_wp2
  go_loop [2] (fun i => i = .int .i64 0) (fun _ => 0)
  case atStart => rfl
  case round =>
    obtain rfl := hrel
    go_wp2
    go_end0
    exact ⟨⟨_, rfl⟩, rfl⟩
theorem E_growKey (b : Nat) (W : World) (h : W.cell? ⟨b, 16, none⟩ = some (.slice none 0 0)) : Calls Tryz.prog 90 #[.pointer (some ⟨b, 0, none⟩)] W fun e w' => (∃ v, e = .returned v) ∧ w' = W := by
  go_enter Tryz.func90, Tryz.ntmps90
  go_wp2
  go_loop [2] (fun i => i = .int .i64 0) (fun _ => 0)
  case atStart => rfl
  case round =>
    obtain rfl := hrel
    go_wp2
    go_end0
    exact ⟨⟨_, rfl⟩, rfl⟩
theorem E_growDecl (b : Nat) (W : World) (h : W.cell? ⟨b, 17, none⟩ = some (.slice none 0 0)) : Calls Tryz.prog 91 #[.pointer (some ⟨b, 0, none⟩)] W fun e w' => (∃ v, e = .returned v) ∧ w' = W := by
  go_enter Tryz.func91, Tryz.ntmps91
  go_wp2
  go_loop [2] (fun i => i = .int .i64 0) (fun _ => 0)
  case atStart => rfl
  case round =>
    obtain rfl := hrel
    go_wp2
    go_end0
    exact ⟨⟨_, rfl⟩, rfl⟩
theorem E_growEntry (b : Nat) (W : World) (h : W.cell? ⟨b, 18, none⟩ = some (.slice none 0 0)) : Calls Tryz.prog 92 #[.pointer (some ⟨b, 0, none⟩)] W fun e w' => (∃ v, e = .returned v) ∧ w' = W := by
  go_enter Tryz.func92, Tryz.ntmps92
  go_wp2
  go_loop [2] (fun i => i = .int .i64 0) (fun _ => 0)
  case atStart => rfl
  case round =>
    obtain rfl := hrel
    go_wp2
    go_end0
    exact ⟨⟨_, rfl⟩, rfl⟩
theorem E_growGroup (b : Nat) (W : World) (h : W.cell? ⟨b, 19, none⟩ = some (.slice none 0 0)) : Calls Tryz.prog 93 #[.pointer (some ⟨b, 0, none⟩)] W fun e w' => (∃ v, e = .returned v) ∧ w' = W := by
  go_enter Tryz.func93, Tryz.ntmps93
  go_wp2
  go_loop [2] (fun i => i = .int .i64 0) (fun _ => 0)
  case atStart => rfl
  case round =>
    obtain rfl := hrel
    go_wp2
    go_end0
    exact ⟨⟨_, rfl⟩, rfl⟩
theorem E_growHead (b : Nat) (W : World) (h : W.cell? ⟨b, 20, none⟩ = some (.slice none 0 0)) : Calls Tryz.prog 94 #[.pointer (some ⟨b, 0, none⟩)] W fun e w' => (∃ v, e = .returned v) ∧ w' = W := by
  go_enter Tryz.func94, Tryz.ntmps94
  go_wp2
  go_loop [2] (fun i => i = .int .i64 0) (fun _ => 0)
  case atStart => rfl
  case round =>
    obtain rfl := hrel
    go_wp2
    go_end0
    exact ⟨⟨_, rfl⟩, rfl⟩
theorem E_growNode (b : Nat) (W : World) (h : W.cell? ⟨b, 21, none⟩ = some (.slice none 0 0)) : Calls Tryz.prog 95 #[.pointer (some ⟨b, 0, none⟩)] W fun e w' => (∃ v, e = .returned v) ∧ w' = W := by
  go_enter Tryz.func95, Tryz.ntmps95
  go_wp2
  go_loop [2] (fun i => i = .int .i64 0) (fun _ => 0)
  case atStart => rfl
  case round =>
    obtain rfl := hrel
    go_wp2
    go_end0
    exact ⟨⟨_, rfl⟩, rfl⟩
theorem E_growAct (b : Nat) (W : World) (h : W.cell? ⟨b, 22, none⟩ = some (.slice none 0 0)) : Calls Tryz.prog 96 #[.pointer (some ⟨b, 0, none⟩)] W fun e w' => (∃ v, e = .returned v) ∧ w' = W := by
  go_enter Tryz.func96, Tryz.ntmps96
  go_wp2
  go_loop [2] (fun i => i = .int .i64 0) (fun _ => 0)
  case atStart => rfl
  case round =>
    obtain rfl := hrel
    go_wp2
    go_end0
    exact ⟨⟨_, rfl⟩, rfl⟩
theorem E_growTable (b : Nat) (W : World) (h : W.cell? ⟨b, 23, none⟩ = some (.slice none 0 0)) : Calls Tryz.prog 97 #[.pointer (some ⟨b, 0, none⟩)] W fun e w' => (∃ v, e = .returned v) ∧ w' = W := by
  go_enter Tryz.func97, Tryz.ntmps97
  go_wp2
  go_loop [2] (fun i => i = .int .i64 0) (fun _ => 0)
  case atStart => rfl
  case round =>
    obtain rfl := hrel
    go_wp2
    go_end0
    exact ⟨⟨_, rfl⟩, rfl⟩
theorem E_growIns (b : Nat) (W : World) (h : W.cell? ⟨b, 24, none⟩ = some (.slice none 0 0)) : Calls Tryz.prog 98 #[.pointer (some ⟨b, 0, none⟩)] W fun e w' => (∃ v, e = .returned v) ∧ w' = W := by
  go_enter Tryz.func98, Tryz.ntmps98
  go_wp2
  go_loop [2] (fun i => i = .int .i64 0) (fun _ => 0)
  case atStart => rfl
  case round =>
    obtain rfl := hrel
    go_wp2
    go_end0
    exact ⟨⟨_, rfl⟩, rfl⟩
theorem E_growEffect (b : Nat) (W : World) (h : W.cell? ⟨b, 25, none⟩ = some (.slice none 0 0)) : Calls Tryz.prog 99 #[.pointer (some ⟨b, 0, none⟩)] W fun e w' => (∃ v, e = .returned v) ∧ w' = W := by
  go_enter Tryz.func99, Tryz.ntmps99
  go_wp2
  go_loop [2] (fun i => i = .int .i64 0) (fun _ => 0)
  case atStart => rfl
  case round =>
    obtain rfl := hrel
    go_wp2
    go_end0
    exact ⟨⟨_, rfl⟩, rfl⟩
theorem E_growUpdate (b : Nat) (W : World) (h : W.cell? ⟨b, 26, none⟩ = some (.slice none 0 0)) : Calls Tryz.prog 100 #[.pointer (some ⟨b, 0, none⟩)] W fun e w' => (∃ v, e = .returned v) ∧ w' = W := by
  go_enter Tryz.func100, Tryz.ntmps100
  go_wp2
  go_loop [2] (fun i => i = .int .i64 0) (fun _ => 0)
  case atStart => rfl
  case round =>
    obtain rfl := hrel
    go_wp2
    go_end0
    exact ⟨⟨_, rfl⟩, rfl⟩
theorem E_growEvent (b : Nat) (W : World) (h : W.cell? ⟨b, 27, none⟩ = some (.slice none 0 0)) : Calls Tryz.prog 101 #[.pointer (some ⟨b, 0, none⟩)] W fun e w' => (∃ v, e = .returned v) ∧ w' = W := by
  go_enter Tryz.func101, Tryz.ntmps101
  go_wp2
  go_loop [2] (fun i => i = .int .i64 0) (fun _ => 0)
  case atStart => rfl
  case round =>
    obtain rfl := hrel
    go_wp2
    go_end0
    exact ⟨⟨_, rfl⟩, rfl⟩
theorem E_growOut (b : Nat) (W : World) (h : W.cell? ⟨b, 28, none⟩ = some (.slice none 0 0)) : Calls Tryz.prog 102 #[.pointer (some ⟨b, 0, none⟩)] W fun e w' => (∃ v, e = .returned v) ∧ w' = W := by
  go_enter Tryz.func102, Tryz.ntmps102
  go_wp2
  go_loop [2] (fun i => i = .int .i64 0) (fun _ => 0)
  case atStart => rfl
  case round =>
    obtain rfl := hrel
    go_wp2
    go_end0
    exact ⟨⟨_, rfl⟩, rfl⟩
theorem E_growRow (b : Nat) (W : World) (h : W.cell? ⟨b, 29, none⟩ = some (.slice none 0 0)) : Calls Tryz.prog 103 #[.pointer (some ⟨b, 0, none⟩)] W fun e w' => (∃ v, e = .returned v) ∧ w' = W := by
  go_enter Tryz.func103, Tryz.ntmps103
  go_wp2
  go_loop [2] (fun i => i = .int .i64 0) (fun _ => 0)
  case atStart => rfl
  case round =>
    obtain rfl := hrel
    go_wp2
    go_end0
    exact ⟨⟨_, rfl⟩, rfl⟩
theorem E_growArray (b : Nat) (W : World) (h : W.cell? ⟨b, 30, none⟩ = some (.slice none 0 0)) : Calls Tryz.prog 104 #[.pointer (some ⟨b, 0, none⟩)] W fun e w' => (∃ v, e = .returned v) ∧ w' = W := by
  go_enter Tryz.func104, Tryz.ntmps104
  go_wp2
  go_loop [2] (fun i => i = .int .i64 0) (fun _ => 0)
  case atStart => rfl
  case round =>
    obtain rfl := hrel
    go_wp2
    go_end0
    exact ⟨⟨_, rfl⟩, rfl⟩
end Go.Proofs.YtmoakgkoahjijaaGreatDoor

/- A book of which nothing of a kind is held: look does nothing. -/
set_option linter.unusedVariables false
set_option linter.unusedSimpArgs false
namespace Go.Proofs.YtmoakgkoahjijaaGreatDoor
open Go.RowKit

theorem E_lookInt (b : Nat) (W : World) (h : W.cell? ⟨b, 1, none⟩ = some (.slice none 0 0)) : Calls Tryz.prog 105 #[.pointer (some ⟨b, 0, none⟩)] W fun e w' => e = .returned (.bool true) ∧ w' = W := by
  go_enter Tryz.func105, Tryz.ntmps105
  go_wp2
  go_loop [3] (fun i => i = .int .i64 0) (fun _ => 0)
  case atStart => rfl
  case round =>
    obtain rfl := hrel
    go_wp2
    go_ret
    exact ⟨rfl, rfl⟩
theorem E_lookKind (b : Nat) (W : World) (h : W.cell? ⟨b, 3, none⟩ = some (.slice none 0 0)) : Calls Tryz.prog 107 #[.pointer (some ⟨b, 0, none⟩)] W fun e w' => e = .returned (.bool true) ∧ w' = W := by
  go_enter Tryz.func107, Tryz.ntmps107
  go_wp2
  go_loop [3] (fun i => i = .int .i64 0) (fun _ => 0)
  case atStart => rfl
  case round =>
    obtain rfl := hrel
    go_wp2
    go_ret
    exact ⟨rfl, rfl⟩
theorem E_lookText (b : Nat) (W : World) (h : W.cell? ⟨b, 4, none⟩ = some (.slice none 0 0)) : Calls Tryz.prog 108 #[.pointer (some ⟨b, 0, none⟩)] W fun e w' => e = .returned (.bool true) ∧ w' = W := by
  go_enter Tryz.func108, Tryz.ntmps108
  go_wp2
  go_loop [3] (fun i => i = .int .i64 0) (fun _ => 0)
  case atStart => rfl
  case round =>
    obtain rfl := hrel
    go_wp2
    go_ret
    exact ⟨rfl, rfl⟩
theorem E_lookBlob (b : Nat) (W : World) (h : W.cell? ⟨b, 5, none⟩ = some (.slice none 0 0)) : Calls Tryz.prog 109 #[.pointer (some ⟨b, 0, none⟩)] W fun e w' => e = .returned (.bool true) ∧ w' = W := by
  go_enter Tryz.func109, Tryz.ntmps109
  go_wp2
  go_loop [3] (fun i => i = .int .i64 0) (fun _ => 0)
  case atStart => rfl
  case round =>
    obtain rfl := hrel
    go_wp2
    go_ret
    exact ⟨rfl, rfl⟩
theorem E_lookNumber (b : Nat) (W : World) (h : W.cell? ⟨b, 6, none⟩ = some (.slice none 0 0)) : Calls Tryz.prog 110 #[.pointer (some ⟨b, 0, none⟩)] W fun e w' => e = .returned (.bool true) ∧ w' = W := by
  go_enter Tryz.func110, Tryz.ntmps110
  go_wp2
  go_loop [3] (fun i => i = .int .i64 0) (fun _ => 0)
  case atStart => rfl
  case round =>
    obtain rfl := hrel
    go_wp2
    go_ret
    exact ⟨rfl, rfl⟩
theorem E_lookWord (b : Nat) (W : World) (h : W.cell? ⟨b, 7, none⟩ = some (.slice none 0 0)) : Calls Tryz.prog 111 #[.pointer (some ⟨b, 0, none⟩)] W fun e w' => e = .returned (.bool true) ∧ w' = W := by
  go_enter Tryz.func111, Tryz.ntmps111
  go_wp2
  go_loop [3] (fun i => i = .int .i64 0) (fun _ => 0)
  case atStart => rfl
  case round =>
    obtain rfl := hrel
    go_wp2
    go_ret
    exact ⟨rfl, rfl⟩
theorem E_lookField (b : Nat) (W : World) (h : W.cell? ⟨b, 8, none⟩ = some (.slice none 0 0)) : Calls Tryz.prog 112 #[.pointer (some ⟨b, 0, none⟩)] W fun e w' => e = .returned (.bool true) ∧ w' = W := by
  go_enter Tryz.func112, Tryz.ntmps112
  go_wp2
  go_loop [3] (fun i => i = .int .i64 0) (fun _ => 0)
  case atStart => rfl
  case round =>
    obtain rfl := hrel
    go_wp2
    go_ret
    exact ⟨rfl, rfl⟩
theorem E_lookMatch (b : Nat) (W : World) (h : W.cell? ⟨b, 9, none⟩ = some (.slice none 0 0)) : Calls Tryz.prog 113 #[.pointer (some ⟨b, 0, none⟩)] W fun e w' => e = .returned (.bool true) ∧ w' = W := by
  go_enter Tryz.func113, Tryz.ntmps113
  go_wp2
  go_loop [3] (fun i => i = .int .i64 0) (fun _ => 0)
  case atStart => rfl
  case round =>
    obtain rfl := hrel
    go_wp2
    go_ret
    exact ⟨rfl, rfl⟩
theorem E_lookArr (b : Nat) (W : World) (h : W.cell? ⟨b, 10, none⟩ = some (.slice none 0 0)) : Calls Tryz.prog 114 #[.pointer (some ⟨b, 0, none⟩)] W fun e w' => e = .returned (.bool true) ∧ w' = W := by
  go_enter Tryz.func114, Tryz.ntmps114
  go_wp2
  go_loop [3] (fun i => i = .int .i64 0) (fun _ => 0)
  case atStart => rfl
  case round =>
    obtain rfl := hrel
    go_wp2
    go_ret
    exact ⟨rfl, rfl⟩
theorem E_lookCase (b : Nat) (W : World) (h : W.cell? ⟨b, 11, none⟩ = some (.slice none 0 0)) : Calls Tryz.prog 115 #[.pointer (some ⟨b, 0, none⟩)] W fun e w' => e = .returned (.bool true) ∧ w' = W := by
  go_enter Tryz.func115, Tryz.ntmps115
  go_wp2
  go_loop [3] (fun i => i = .int .i64 0) (fun _ => 0)
  case atStart => rfl
  case round =>
    obtain rfl := hrel
    go_wp2
    go_ret
    exact ⟨rfl, rfl⟩
theorem E_lookJump (b : Nat) (W : World) (h : W.cell? ⟨b, 12, none⟩ = some (.slice none 0 0)) : Calls Tryz.prog 116 #[.pointer (some ⟨b, 0, none⟩)] W fun e w' => e = .returned (.bool true) ∧ w' = W := by
  go_enter Tryz.func116, Tryz.ntmps116
  go_wp2
  go_loop [3] (fun i => i = .int .i64 0) (fun _ => 0)
  case atStart => rfl
  case round =>
    obtain rfl := hrel
    go_wp2
    go_ret
    exact ⟨rfl, rfl⟩
theorem E_lookExpr (b : Nat) (W : World) (h : W.cell? ⟨b, 13, none⟩ = some (.slice none 0 0)) : Calls Tryz.prog 117 #[.pointer (some ⟨b, 0, none⟩)] W fun e w' => e = .returned (.bool true) ∧ w' = W := by
  go_enter Tryz.func117, Tryz.ntmps117
  go_wp2
  go_loop [3] (fun i => i = .int .i64 0) (fun _ => 0)
  case atStart => rfl
  case round =>
    obtain rfl := hrel
    go_wp2
    go_ret
    exact ⟨rfl, rfl⟩
theorem E_lookStmt (b : Nat) (W : World) (h : W.cell? ⟨b, 14, none⟩ = some (.slice none 0 0)) : Calls Tryz.prog 118 #[.pointer (some ⟨b, 0, none⟩)] W fun e w' => e = .returned (.bool true) ∧ w' = W := by
  go_enter Tryz.func118, Tryz.ntmps118
  go_wp2
  go_loop [3] (fun i => i = .int .i64 0) (fun _ => 0)
  case atStart => rfl
  case round =>
    obtain rfl := hrel
    go_wp2
    go_ret
    exact ⟨rfl, rfl⟩
theorem E_lookState (b : Nat) (W : World) (h : W.cell? ⟨b, 15, none⟩ = some (.slice none 0 0)) : Calls Tryz.prog 119 #[.pointer (some ⟨b, 0, none⟩)] W fun e w' => e = .returned (.bool true) ∧ w' = W := by
  go_enter Tryz.func119, Tryz.ntmps119
  go_wp2
  go_loop [3] (fun i => i = .int .i64 0) (fun _ => 0)
  case atStart => rfl
  case round =>
    obtain rfl := hrel
    go_wp2
    go_ret
    exact ⟨rfl, rfl⟩
theorem E_lookKey (b : Nat) (W : World) (h : W.cell? ⟨b, 16, none⟩ = some (.slice none 0 0)) : Calls Tryz.prog 120 #[.pointer (some ⟨b, 0, none⟩)] W fun e w' => e = .returned (.bool true) ∧ w' = W := by
  go_enter Tryz.func120, Tryz.ntmps120
  go_wp2
  go_loop [3] (fun i => i = .int .i64 0) (fun _ => 0)
  case atStart => rfl
  case round =>
    obtain rfl := hrel
    go_wp2
    go_ret
    exact ⟨rfl, rfl⟩
theorem E_lookDecl (b : Nat) (W : World) (h : W.cell? ⟨b, 17, none⟩ = some (.slice none 0 0)) : Calls Tryz.prog 121 #[.pointer (some ⟨b, 0, none⟩)] W fun e w' => e = .returned (.bool true) ∧ w' = W := by
  go_enter Tryz.func121, Tryz.ntmps121
  go_wp2
  go_loop [3] (fun i => i = .int .i64 0) (fun _ => 0)
  case atStart => rfl
  case round =>
    obtain rfl := hrel
    go_wp2
    go_ret
    exact ⟨rfl, rfl⟩
theorem E_lookEntry (b : Nat) (W : World) (h : W.cell? ⟨b, 18, none⟩ = some (.slice none 0 0)) : Calls Tryz.prog 122 #[.pointer (some ⟨b, 0, none⟩)] W fun e w' => e = .returned (.bool true) ∧ w' = W := by
  go_enter Tryz.func122, Tryz.ntmps122
  go_wp2
  go_loop [3] (fun i => i = .int .i64 0) (fun _ => 0)
  case atStart => rfl
  case round =>
    obtain rfl := hrel
    go_wp2
    go_ret
    exact ⟨rfl, rfl⟩
theorem E_lookGroup (b : Nat) (W : World) (h : W.cell? ⟨b, 19, none⟩ = some (.slice none 0 0)) : Calls Tryz.prog 123 #[.pointer (some ⟨b, 0, none⟩)] W fun e w' => e = .returned (.bool true) ∧ w' = W := by
  go_enter Tryz.func123, Tryz.ntmps123
  go_wp2
  go_loop [3] (fun i => i = .int .i64 0) (fun _ => 0)
  case atStart => rfl
  case round =>
    obtain rfl := hrel
    go_wp2
    go_ret
    exact ⟨rfl, rfl⟩
theorem E_lookHead (b : Nat) (W : World) (h : W.cell? ⟨b, 20, none⟩ = some (.slice none 0 0)) : Calls Tryz.prog 124 #[.pointer (some ⟨b, 0, none⟩)] W fun e w' => e = .returned (.bool true) ∧ w' = W := by
  go_enter Tryz.func124, Tryz.ntmps124
  go_wp2
  go_loop [3] (fun i => i = .int .i64 0) (fun _ => 0)
  case atStart => rfl
  case round =>
    obtain rfl := hrel
    go_wp2
    go_ret
    exact ⟨rfl, rfl⟩
theorem E_lookNode (b : Nat) (W : World) (h : W.cell? ⟨b, 21, none⟩ = some (.slice none 0 0)) : Calls Tryz.prog 125 #[.pointer (some ⟨b, 0, none⟩)] W fun e w' => e = .returned (.bool true) ∧ w' = W := by
  go_enter Tryz.func125, Tryz.ntmps125
  go_wp2
  go_loop [3] (fun i => i = .int .i64 0) (fun _ => 0)
  case atStart => rfl
  case round =>
    obtain rfl := hrel
    go_wp2
    go_ret
    exact ⟨rfl, rfl⟩
theorem E_lookAct (b : Nat) (W : World) (h : W.cell? ⟨b, 22, none⟩ = some (.slice none 0 0)) : Calls Tryz.prog 126 #[.pointer (some ⟨b, 0, none⟩)] W fun e w' => e = .returned (.bool true) ∧ w' = W := by
  go_enter Tryz.func126, Tryz.ntmps126
  go_wp2
  go_loop [3] (fun i => i = .int .i64 0) (fun _ => 0)
  case atStart => rfl
  case round =>
    obtain rfl := hrel
    go_wp2
    go_ret
    exact ⟨rfl, rfl⟩
theorem E_lookTable (b : Nat) (W : World) (h : W.cell? ⟨b, 23, none⟩ = some (.slice none 0 0)) : Calls Tryz.prog 127 #[.pointer (some ⟨b, 0, none⟩)] W fun e w' => e = .returned (.bool true) ∧ w' = W := by
  go_enter Tryz.func127, Tryz.ntmps127
  go_wp2
  go_loop [3] (fun i => i = .int .i64 0) (fun _ => 0)
  case atStart => rfl
  case round =>
    obtain rfl := hrel
    go_wp2
    go_ret
    exact ⟨rfl, rfl⟩
theorem E_lookIns (b : Nat) (W : World) (h : W.cell? ⟨b, 24, none⟩ = some (.slice none 0 0)) : Calls Tryz.prog 128 #[.pointer (some ⟨b, 0, none⟩)] W fun e w' => e = .returned (.bool true) ∧ w' = W := by
  go_enter Tryz.func128, Tryz.ntmps128
  go_wp2
  go_loop [3] (fun i => i = .int .i64 0) (fun _ => 0)
  case atStart => rfl
  case round =>
    obtain rfl := hrel
    go_wp2
    go_ret
    exact ⟨rfl, rfl⟩
theorem E_lookEffect (b : Nat) (W : World) (h : W.cell? ⟨b, 25, none⟩ = some (.slice none 0 0)) : Calls Tryz.prog 129 #[.pointer (some ⟨b, 0, none⟩)] W fun e w' => e = .returned (.bool true) ∧ w' = W := by
  go_enter Tryz.func129, Tryz.ntmps129
  go_wp2
  go_loop [3] (fun i => i = .int .i64 0) (fun _ => 0)
  case atStart => rfl
  case round =>
    obtain rfl := hrel
    go_wp2
    go_ret
    exact ⟨rfl, rfl⟩
theorem E_lookUpdate (b : Nat) (W : World) (h : W.cell? ⟨b, 26, none⟩ = some (.slice none 0 0)) : Calls Tryz.prog 130 #[.pointer (some ⟨b, 0, none⟩)] W fun e w' => e = .returned (.bool true) ∧ w' = W := by
  go_enter Tryz.func130, Tryz.ntmps130
  go_wp2
  go_loop [3] (fun i => i = .int .i64 0) (fun _ => 0)
  case atStart => rfl
  case round =>
    obtain rfl := hrel
    go_wp2
    go_ret
    exact ⟨rfl, rfl⟩
theorem E_lookEvent (b : Nat) (W : World) (h : W.cell? ⟨b, 27, none⟩ = some (.slice none 0 0)) : Calls Tryz.prog 131 #[.pointer (some ⟨b, 0, none⟩)] W fun e w' => e = .returned (.bool true) ∧ w' = W := by
  go_enter Tryz.func131, Tryz.ntmps131
  go_wp2
  go_loop [3] (fun i => i = .int .i64 0) (fun _ => 0)
  case atStart => rfl
  case round =>
    obtain rfl := hrel
    go_wp2
    go_ret
    exact ⟨rfl, rfl⟩
theorem E_lookOut (b : Nat) (W : World) (h : W.cell? ⟨b, 28, none⟩ = some (.slice none 0 0)) : Calls Tryz.prog 132 #[.pointer (some ⟨b, 0, none⟩)] W fun e w' => e = .returned (.bool true) ∧ w' = W := by
  go_enter Tryz.func132, Tryz.ntmps132
  go_wp2
  go_loop [3] (fun i => i = .int .i64 0) (fun _ => 0)
  case atStart => rfl
  case round =>
    obtain rfl := hrel
    go_wp2
    go_ret
    exact ⟨rfl, rfl⟩
theorem E_lookRow (b : Nat) (W : World) (h : W.cell? ⟨b, 29, none⟩ = some (.slice none 0 0)) : Calls Tryz.prog 133 #[.pointer (some ⟨b, 0, none⟩)] W fun e w' => e = .returned (.bool true) ∧ w' = W := by
  go_enter Tryz.func133, Tryz.ntmps133
  go_wp2
  go_loop [3] (fun i => i = .int .i64 0) (fun _ => 0)
  case atStart => rfl
  case round =>
    obtain rfl := hrel
    go_wp2
    go_ret
    exact ⟨rfl, rfl⟩
theorem E_lookArray (b : Nat) (W : World) (h : W.cell? ⟨b, 30, none⟩ = some (.slice none 0 0)) : Calls Tryz.prog 134 #[.pointer (some ⟨b, 0, none⟩)] W fun e w' => e = .returned (.bool true) ∧ w' = W := by
  go_enter Tryz.func134, Tryz.ntmps134
  go_wp2
  go_loop [3] (fun i => i = .int .i64 0) (fun _ => 0)
  case atStart => rfl
  case round =>
    obtain rfl := hrel
    go_wp2
    go_ret
    exact ⟨rfl, rfl⟩
end Go.Proofs.YtmoakgkoahjijaaGreatDoor

/- Apart: of disjoint lists of bytes that are the law's own it answers true. -/
set_option linter.unusedVariables false
set_option linter.unusedSimpArgs false
namespace Go.Proofs.YtmoakgkoahjijaaGreatDoor
open Go.RowKit

theorem Fill.grow {W : World} {base : Nat} {ps : List (Value × Value)} {ns : Nat → Nat} {F : Nat → Nat → Prop} (h : Fill W base ps ns F ps.length) : Grow W base ps ns F 0 :=
  fun j p hp => ⟨fun hj => by omega, fun _ => ⟨(h j p hp).1, (h j p hp).2.1 (List.getElem?_eq_some_iff.1 hp).1⟩⟩
set_option maxRecDepth 100000 in
set_option maxHeartbeats 40000000 in
theorem apart_any (base b : Nat) (row : Value) (ps : List (Value × Value)) (ns : Nat → Nat) (F : Nat → Nat → Prop) (W : World) (h : Bk W base b row ps F) (hN : ps.length ≤ 1000000000) (hns : ∀ j, ns j ≤ 140737488355200) (h1 : Fill W base ps ns F 0) :
    Calls Tryz.prog 12 #[.pointer (some ⟨b, 0, none⟩)] W fun e w' => e = .returned (.bool true) ∧ Foot (fun q => row.ownBlock = some q ∨ ∃ i, F i q) W w' := by
  have HB := aside' h
  have HFI := aside' (fill_any base b row ps ns F W h hN (fun j => Nat.le_trans (hns j) (by decide)) h1)
  have HNS := aside' hns
  clear h h1 hns
  go_enter Tryz.func12, Tryz.ntmps12
  go_wp2_with fail
  refine Calls.mono (E_fillInt b _ (cellOf HB.out.hb 1)) ?_
  rintro e w' ⟨⟨u, rfl⟩, hw⟩
  have hw := hw.symm
  subst hw
  go_wp2_with fail
  refine Calls.mono HFI.out ?_
  rintro e W1 ⟨⟨u, rfl⟩, hb1, hf1, hft1⟩
  have HB1 := aside' hb1
  have HG := aside' (grow_any base b row ps ns F W1 hb1 hN HNS.out hf1.grow)
  have HT1 := aside' (hft1.mono (G := fun q => row.ownBlock = some q ∨ ∃ i, F i q) (fun q _ hq => .inr hq))
  clear hb1 hf1 hft1 HFI
  go_wp2_with fail
  refine Calls.mono (E_fillKind b _ (cellOf HB1.out.hb 3)) ?_
  rintro e w' ⟨⟨u, rfl⟩, hw⟩
  have hw := hw.symm
  subst hw
  go_wp2_with fail
  refine Calls.mono (E_fillText b _ (cellOf HB1.out.hb 4)) ?_
  rintro e w' ⟨⟨u, rfl⟩, hw⟩
  have hw := hw.symm
  subst hw
  go_wp2_with fail
  refine Calls.mono (E_fillBlob b _ (cellOf HB1.out.hb 5)) ?_
  rintro e w' ⟨⟨u, rfl⟩, hw⟩
  have hw := hw.symm
  subst hw
  go_wp2_with fail
  refine Calls.mono (E_fillNumber b _ (cellOf HB1.out.hb 6)) ?_
  rintro e w' ⟨⟨u, rfl⟩, hw⟩
  have hw := hw.symm
  subst hw
  go_wp2_with fail
  refine Calls.mono (E_fillWord b _ (cellOf HB1.out.hb 7)) ?_
  rintro e w' ⟨⟨u, rfl⟩, hw⟩
  have hw := hw.symm
  subst hw
  go_wp2_with fail
  refine Calls.mono (E_fillField b _ (cellOf HB1.out.hb 8)) ?_
  rintro e w' ⟨⟨u, rfl⟩, hw⟩
  have hw := hw.symm
  subst hw
  go_wp2_with fail
  refine Calls.mono (E_fillMatch b _ (cellOf HB1.out.hb 9)) ?_
  rintro e w' ⟨⟨u, rfl⟩, hw⟩
  have hw := hw.symm
  subst hw
  go_wp2_with fail
  refine Calls.mono (E_fillArr b _ (cellOf HB1.out.hb 10)) ?_
  rintro e w' ⟨⟨u, rfl⟩, hw⟩
  have hw := hw.symm
  subst hw
  go_wp2_with fail
  refine Calls.mono (E_fillCase b _ (cellOf HB1.out.hb 11)) ?_
  rintro e w' ⟨⟨u, rfl⟩, hw⟩
  have hw := hw.symm
  subst hw
  go_wp2_with fail
  refine Calls.mono (E_fillJump b _ (cellOf HB1.out.hb 12)) ?_
  rintro e w' ⟨⟨u, rfl⟩, hw⟩
  have hw := hw.symm
  subst hw
  go_wp2_with fail
  refine Calls.mono (E_fillExpr b _ (cellOf HB1.out.hb 13)) ?_
  rintro e w' ⟨⟨u, rfl⟩, hw⟩
  have hw := hw.symm
  subst hw
  go_wp2_with fail
  refine Calls.mono (E_fillStmt b _ (cellOf HB1.out.hb 14)) ?_
  rintro e w' ⟨⟨u, rfl⟩, hw⟩
  have hw := hw.symm
  subst hw
  go_wp2_with fail
  refine Calls.mono (E_fillState b _ (cellOf HB1.out.hb 15)) ?_
  rintro e w' ⟨⟨u, rfl⟩, hw⟩
  have hw := hw.symm
  subst hw
  go_wp2_with fail
  refine Calls.mono (E_fillKey b _ (cellOf HB1.out.hb 16)) ?_
  rintro e w' ⟨⟨u, rfl⟩, hw⟩
  have hw := hw.symm
  subst hw
  go_wp2_with fail
  refine Calls.mono (E_fillDecl b _ (cellOf HB1.out.hb 17)) ?_
  rintro e w' ⟨⟨u, rfl⟩, hw⟩
  have hw := hw.symm
  subst hw
  go_wp2_with fail
  refine Calls.mono (E_fillEntry b _ (cellOf HB1.out.hb 18)) ?_
  rintro e w' ⟨⟨u, rfl⟩, hw⟩
  have hw := hw.symm
  subst hw
  go_wp2_with fail
  refine Calls.mono (E_fillGroup b _ (cellOf HB1.out.hb 19)) ?_
  rintro e w' ⟨⟨u, rfl⟩, hw⟩
  have hw := hw.symm
  subst hw
  go_wp2_with fail
  refine Calls.mono (E_fillHead b _ (cellOf HB1.out.hb 20)) ?_
  rintro e w' ⟨⟨u, rfl⟩, hw⟩
  have hw := hw.symm
  subst hw
  go_wp2_with fail
  refine Calls.mono (E_fillNode b _ (cellOf HB1.out.hb 21)) ?_
  rintro e w' ⟨⟨u, rfl⟩, hw⟩
  have hw := hw.symm
  subst hw
  go_wp2_with fail
  refine Calls.mono (E_fillAct b _ (cellOf HB1.out.hb 22)) ?_
  rintro e w' ⟨⟨u, rfl⟩, hw⟩
  have hw := hw.symm
  subst hw
  go_wp2_with fail
  refine Calls.mono (E_fillTable b _ (cellOf HB1.out.hb 23)) ?_
  rintro e w' ⟨⟨u, rfl⟩, hw⟩
  have hw := hw.symm
  subst hw
  go_wp2_with fail
  refine Calls.mono (E_fillIns b _ (cellOf HB1.out.hb 24)) ?_
  rintro e w' ⟨⟨u, rfl⟩, hw⟩
  have hw := hw.symm
  subst hw
  go_wp2_with fail
  refine Calls.mono (E_fillEffect b _ (cellOf HB1.out.hb 25)) ?_
  rintro e w' ⟨⟨u, rfl⟩, hw⟩
  have hw := hw.symm
  subst hw
  go_wp2_with fail
  refine Calls.mono (E_fillUpdate b _ (cellOf HB1.out.hb 26)) ?_
  rintro e w' ⟨⟨u, rfl⟩, hw⟩
  have hw := hw.symm
  subst hw
  go_wp2_with fail
  refine Calls.mono (E_fillEvent b _ (cellOf HB1.out.hb 27)) ?_
  rintro e w' ⟨⟨u, rfl⟩, hw⟩
  have hw := hw.symm
  subst hw
  go_wp2_with fail
  refine Calls.mono (E_fillOut b _ (cellOf HB1.out.hb 28)) ?_
  rintro e w' ⟨⟨u, rfl⟩, hw⟩
  have hw := hw.symm
  subst hw
  go_wp2_with fail
  refine Calls.mono (E_fillRow b _ (cellOf HB1.out.hb 29)) ?_
  rintro e w' ⟨⟨u, rfl⟩, hw⟩
  have hw := hw.symm
  subst hw
  go_wp2_with fail
  refine Calls.mono (E_fillArray b _ (cellOf HB1.out.hb 30)) ?_
  rintro e w' ⟨⟨u, rfl⟩, hw⟩
  have hw := hw.symm
  subst hw
  go_wp2_with fail
  refine Calls.mono (E_growInt b _ (cellOf HB1.out.hb 1)) ?_
  rintro e w' ⟨⟨u, rfl⟩, hw⟩
  have hw := hw.symm
  subst hw
  go_wp2_with fail
  refine Calls.mono HG.out ?_
  rintro e W2 ⟨⟨u, rfl⟩, ps2, F2, hl2, hb2, hg2, hft2⟩
  have HB2 := aside' hb2
  have HLK := aside' (book_look base b row ps2 ns F2 W2 hb2 (by omega) HNS.out (by rw [hl2]; exact hg2))
  have HT2 := aside' (HT1.out.trans hft2 (fun q hq => .inl hq))
  clear hb2 hg2 hft2 hl2 HG HT1 HB1
  go_wp2_with fail
  refine Calls.mono (E_growKind b _ (cellOf HB2.out.hb 3)) ?_
  rintro e w' ⟨⟨u, rfl⟩, hw⟩
  have hw := hw.symm
  subst hw
  go_wp2_with fail
  refine Calls.mono (E_growText b _ (cellOf HB2.out.hb 4)) ?_
  rintro e w' ⟨⟨u, rfl⟩, hw⟩
  have hw := hw.symm
  subst hw
  go_wp2_with fail
  refine Calls.mono (E_growBlob b _ (cellOf HB2.out.hb 5)) ?_
  rintro e w' ⟨⟨u, rfl⟩, hw⟩
  have hw := hw.symm
  subst hw
  go_wp2_with fail
  refine Calls.mono (E_growNumber b _ (cellOf HB2.out.hb 6)) ?_
  rintro e w' ⟨⟨u, rfl⟩, hw⟩
  have hw := hw.symm
  subst hw
  go_wp2_with fail
  refine Calls.mono (E_growWord b _ (cellOf HB2.out.hb 7)) ?_
  rintro e w' ⟨⟨u, rfl⟩, hw⟩
  have hw := hw.symm
  subst hw
  go_wp2_with fail
  refine Calls.mono (E_growField b _ (cellOf HB2.out.hb 8)) ?_
  rintro e w' ⟨⟨u, rfl⟩, hw⟩
  have hw := hw.symm
  subst hw
  go_wp2_with fail
  refine Calls.mono (E_growMatch b _ (cellOf HB2.out.hb 9)) ?_
  rintro e w' ⟨⟨u, rfl⟩, hw⟩
  have hw := hw.symm
  subst hw
  go_wp2_with fail
  refine Calls.mono (E_growArr b _ (cellOf HB2.out.hb 10)) ?_
  rintro e w' ⟨⟨u, rfl⟩, hw⟩
  have hw := hw.symm
  subst hw
  go_wp2_with fail
  refine Calls.mono (E_growCase b _ (cellOf HB2.out.hb 11)) ?_
  rintro e w' ⟨⟨u, rfl⟩, hw⟩
  have hw := hw.symm
  subst hw
  go_wp2_with fail
  refine Calls.mono (E_growJump b _ (cellOf HB2.out.hb 12)) ?_
  rintro e w' ⟨⟨u, rfl⟩, hw⟩
  have hw := hw.symm
  subst hw
  go_wp2_with fail
  refine Calls.mono (E_growExpr b _ (cellOf HB2.out.hb 13)) ?_
  rintro e w' ⟨⟨u, rfl⟩, hw⟩
  have hw := hw.symm
  subst hw
  go_wp2_with fail
  refine Calls.mono (E_growStmt b _ (cellOf HB2.out.hb 14)) ?_
  rintro e w' ⟨⟨u, rfl⟩, hw⟩
  have hw := hw.symm
  subst hw
  go_wp2_with fail
  refine Calls.mono (E_growState b _ (cellOf HB2.out.hb 15)) ?_
  rintro e w' ⟨⟨u, rfl⟩, hw⟩
  have hw := hw.symm
  subst hw
  go_wp2_with fail
  refine Calls.mono (E_growKey b _ (cellOf HB2.out.hb 16)) ?_
  rintro e w' ⟨⟨u, rfl⟩, hw⟩
  have hw := hw.symm
  subst hw
  go_wp2_with fail
  refine Calls.mono (E_growDecl b _ (cellOf HB2.out.hb 17)) ?_
  rintro e w' ⟨⟨u, rfl⟩, hw⟩
  have hw := hw.symm
  subst hw
  go_wp2_with fail
  refine Calls.mono (E_growEntry b _ (cellOf HB2.out.hb 18)) ?_
  rintro e w' ⟨⟨u, rfl⟩, hw⟩
  have hw := hw.symm
  subst hw
  go_wp2_with fail
  refine Calls.mono (E_growGroup b _ (cellOf HB2.out.hb 19)) ?_
  rintro e w' ⟨⟨u, rfl⟩, hw⟩
  have hw := hw.symm
  subst hw
  go_wp2_with fail
  refine Calls.mono (E_growHead b _ (cellOf HB2.out.hb 20)) ?_
  rintro e w' ⟨⟨u, rfl⟩, hw⟩
  have hw := hw.symm
  subst hw
  go_wp2_with fail
  refine Calls.mono (E_growNode b _ (cellOf HB2.out.hb 21)) ?_
  rintro e w' ⟨⟨u, rfl⟩, hw⟩
  have hw := hw.symm
  subst hw
  go_wp2_with fail
  refine Calls.mono (E_growAct b _ (cellOf HB2.out.hb 22)) ?_
  rintro e w' ⟨⟨u, rfl⟩, hw⟩
  have hw := hw.symm
  subst hw
  go_wp2_with fail
  refine Calls.mono (E_growTable b _ (cellOf HB2.out.hb 23)) ?_
  rintro e w' ⟨⟨u, rfl⟩, hw⟩
  have hw := hw.symm
  subst hw
  go_wp2_with fail
  refine Calls.mono (E_growIns b _ (cellOf HB2.out.hb 24)) ?_
  rintro e w' ⟨⟨u, rfl⟩, hw⟩
  have hw := hw.symm
  subst hw
  go_wp2_with fail
  refine Calls.mono (E_growEffect b _ (cellOf HB2.out.hb 25)) ?_
  rintro e w' ⟨⟨u, rfl⟩, hw⟩
  have hw := hw.symm
  subst hw
  go_wp2_with fail
  refine Calls.mono (E_growUpdate b _ (cellOf HB2.out.hb 26)) ?_
  rintro e w' ⟨⟨u, rfl⟩, hw⟩
  have hw := hw.symm
  subst hw
  go_wp2_with fail
  refine Calls.mono (E_growEvent b _ (cellOf HB2.out.hb 27)) ?_
  rintro e w' ⟨⟨u, rfl⟩, hw⟩
  have hw := hw.symm
  subst hw
  go_wp2_with fail
  refine Calls.mono (E_growOut b _ (cellOf HB2.out.hb 28)) ?_
  rintro e w' ⟨⟨u, rfl⟩, hw⟩
  have hw := hw.symm
  subst hw
  go_wp2_with fail
  refine Calls.mono (E_growRow b _ (cellOf HB2.out.hb 29)) ?_
  rintro e w' ⟨⟨u, rfl⟩, hw⟩
  have hw := hw.symm
  subst hw
  go_wp2_with fail
  refine Calls.mono (E_growArray b _ (cellOf HB2.out.hb 30)) ?_
  rintro e w' ⟨⟨u, rfl⟩, hw⟩
  have hw := hw.symm
  subst hw
  go_wp2_with fail
  refine Calls.mono (E_lookInt b _ (cellOf HB2.out.hb 1)) ?_
  rintro e w' ⟨rfl, hw⟩
  have hw := hw.symm
  subst hw
  go_wp2_with fail
  refine Calls.mono HLK.out ?_
  rintro e W3 ⟨rfl, hft3⟩
  have HB3 := aside' (HB2.out.foot hft3 (fun h => h) (fun _ _ h => h))
  have HT3 := aside' (HT2.out.trans hft3 (fun q hq => hq.elim))
  clear hft3 HLK HT2 HB2
  go_wp2_with fail
  refine Calls.mono (E_lookKind b _ (cellOf HB3.out.hb 3)) ?_
  rintro e w' ⟨rfl, hw⟩
  have hw := hw.symm
  subst hw
  go_wp2_with fail
  refine Calls.mono (E_lookText b _ (cellOf HB3.out.hb 4)) ?_
  rintro e w' ⟨rfl, hw⟩
  have hw := hw.symm
  subst hw
  go_wp2_with fail
  refine Calls.mono (E_lookBlob b _ (cellOf HB3.out.hb 5)) ?_
  rintro e w' ⟨rfl, hw⟩
  have hw := hw.symm
  subst hw
  go_wp2_with fail
  refine Calls.mono (E_lookNumber b _ (cellOf HB3.out.hb 6)) ?_
  rintro e w' ⟨rfl, hw⟩
  have hw := hw.symm
  subst hw
  go_wp2_with fail
  refine Calls.mono (E_lookWord b _ (cellOf HB3.out.hb 7)) ?_
  rintro e w' ⟨rfl, hw⟩
  have hw := hw.symm
  subst hw
  go_wp2_with fail
  refine Calls.mono (E_lookField b _ (cellOf HB3.out.hb 8)) ?_
  rintro e w' ⟨rfl, hw⟩
  have hw := hw.symm
  subst hw
  go_wp2_with fail
  refine Calls.mono (E_lookMatch b _ (cellOf HB3.out.hb 9)) ?_
  rintro e w' ⟨rfl, hw⟩
  have hw := hw.symm
  subst hw
  go_wp2_with fail
  refine Calls.mono (E_lookArr b _ (cellOf HB3.out.hb 10)) ?_
  rintro e w' ⟨rfl, hw⟩
  have hw := hw.symm
  subst hw
  go_wp2_with fail
  refine Calls.mono (E_lookCase b _ (cellOf HB3.out.hb 11)) ?_
  rintro e w' ⟨rfl, hw⟩
  have hw := hw.symm
  subst hw
  go_wp2_with fail
  refine Calls.mono (E_lookJump b _ (cellOf HB3.out.hb 12)) ?_
  rintro e w' ⟨rfl, hw⟩
  have hw := hw.symm
  subst hw
  go_wp2_with fail
  refine Calls.mono (E_lookExpr b _ (cellOf HB3.out.hb 13)) ?_
  rintro e w' ⟨rfl, hw⟩
  have hw := hw.symm
  subst hw
  go_wp2_with fail
  refine Calls.mono (E_lookStmt b _ (cellOf HB3.out.hb 14)) ?_
  rintro e w' ⟨rfl, hw⟩
  have hw := hw.symm
  subst hw
  go_wp2_with fail
  refine Calls.mono (E_lookState b _ (cellOf HB3.out.hb 15)) ?_
  rintro e w' ⟨rfl, hw⟩
  have hw := hw.symm
  subst hw
  go_wp2_with fail
  refine Calls.mono (E_lookKey b _ (cellOf HB3.out.hb 16)) ?_
  rintro e w' ⟨rfl, hw⟩
  have hw := hw.symm
  subst hw
  go_wp2_with fail
  refine Calls.mono (E_lookDecl b _ (cellOf HB3.out.hb 17)) ?_
  rintro e w' ⟨rfl, hw⟩
  have hw := hw.symm
  subst hw
  go_wp2_with fail
  refine Calls.mono (E_lookEntry b _ (cellOf HB3.out.hb 18)) ?_
  rintro e w' ⟨rfl, hw⟩
  have hw := hw.symm
  subst hw
  go_wp2_with fail
  refine Calls.mono (E_lookGroup b _ (cellOf HB3.out.hb 19)) ?_
  rintro e w' ⟨rfl, hw⟩
  have hw := hw.symm
  subst hw
  go_wp2_with fail
  refine Calls.mono (E_lookHead b _ (cellOf HB3.out.hb 20)) ?_
  rintro e w' ⟨rfl, hw⟩
  have hw := hw.symm
  subst hw
  go_wp2_with fail
  refine Calls.mono (E_lookNode b _ (cellOf HB3.out.hb 21)) ?_
  rintro e w' ⟨rfl, hw⟩
  have hw := hw.symm
  subst hw
  go_wp2_with fail
  refine Calls.mono (E_lookAct b _ (cellOf HB3.out.hb 22)) ?_
  rintro e w' ⟨rfl, hw⟩
  have hw := hw.symm
  subst hw
  go_wp2_with fail
  refine Calls.mono (E_lookTable b _ (cellOf HB3.out.hb 23)) ?_
  rintro e w' ⟨rfl, hw⟩
  have hw := hw.symm
  subst hw
  go_wp2_with fail
  refine Calls.mono (E_lookIns b _ (cellOf HB3.out.hb 24)) ?_
  rintro e w' ⟨rfl, hw⟩
  have hw := hw.symm
  subst hw
  go_wp2_with fail
  refine Calls.mono (E_lookEffect b _ (cellOf HB3.out.hb 25)) ?_
  rintro e w' ⟨rfl, hw⟩
  have hw := hw.symm
  subst hw
  go_wp2_with fail
  refine Calls.mono (E_lookUpdate b _ (cellOf HB3.out.hb 26)) ?_
  rintro e w' ⟨rfl, hw⟩
  have hw := hw.symm
  subst hw
  go_wp2_with fail
  refine Calls.mono (E_lookEvent b _ (cellOf HB3.out.hb 27)) ?_
  rintro e w' ⟨rfl, hw⟩
  have hw := hw.symm
  subst hw
  go_wp2_with fail
  refine Calls.mono (E_lookOut b _ (cellOf HB3.out.hb 28)) ?_
  rintro e w' ⟨rfl, hw⟩
  have hw := hw.symm
  subst hw
  go_wp2_with fail
  refine Calls.mono (E_lookRow b _ (cellOf HB3.out.hb 29)) ?_
  rintro e w' ⟨rfl, hw⟩
  have hw := hw.symm
  subst hw
  go_wp2_with fail
  refine Calls.mono (E_lookArray b _ (cellOf HB3.out.hb 30)) ?_
  rintro e w' ⟨rfl, hw⟩
  have hw := hw.symm
  subst hw
  go_wp2
  go_ret
  exact ⟨rfl, HT3.out⟩
end Go.Proofs.YtmoakgkoahjijaaGreatDoor

/- A book beside other work: its zone, its lists' going on, one list more. -/
set_option linter.unusedVariables false
set_option linter.unusedSimpArgs false
namespace Go.Proofs.YtmoakgkoahjijaaGreatDoor
open Go.RowKit

theorem wpList_seen {P : Program} {ops : Array Oper} {rest : List Oper} {a : Act} {Q : Exit → Act → World → Prop} {W : World} (h : ∀ V, V = W → wpList P ops Q rest a V) : wpList P ops Q rest a W := h W rfl
theorem own_base' {W : World} {base base' n : Nat} {e : TypeId} {size : Nat} {v : Value} {xs : List Value} (ho : W.ownsRow base e size v n xs) (hb : base' ≤ base) : W.ownsRow base' e size v n xs := by
  refine ⟨ho.1, ho.2.elim .inl ?_⟩
  rintro ⟨g, cap, cur, h1, h2, r⟩
  exact .inr ⟨g, cap, cur, h1, Nat.le_trans hb h2, r⟩
theorem own_block (W : World) (base g : Nat) (xs : List Int) (n : Nat) (hn : xs.length = n) (hm : n ≤ 9223372036854775807) (hb : base ≤ g) (h : W.heap[g]? = some (.cells (nums .u8 xs).toArray 5 (0, 0))) : W.ownsRow base 5 1 (.slice (some ⟨g, 0, none⟩) n n) n (nums .u8 xs) :=
  ⟨by simp [nums, hn], .inr ⟨g, n, _, rfl, hb, h, Nat.le_refl _, by simpa [maxLen] using hm, by simp [nums, hn], by rw [List.toList_toArray, List.take_of_length_le (by simp [nums, hn])]⟩⟩
theorem own_lt {w : World} {base n : Nat} {e : TypeId} {size : Nat} {v : Value} {xs : List Value} (h : w.ownsRow base e size v n xs) : ∀ k, v.ownBlock = some k → base ≤ k ∧ k < w.heap.size := by
  intro k hk
  rcases h.2 with ⟨rfl, _⟩ | ⟨g, cap, cur, rfl, h1, h2, _⟩
  · simp [Value.ownBlock] at hk
  · simp only [Value.ownBlock, Option.some.injEq] at hk
    subst hk
    exact ⟨h1, (Array.getElem?_eq_some_iff.1 h2).1⟩
theorem bytes_keep (base b : Nat) (row : Value) (ps : List (Value × Value)) (F : Nat → Nat → Prop) (A : Option Addr) (n c : Nat) (Fv : Nat → Prop) (W : World) (h : Bk W base b row ps F) (hN : ps.length ≤ 1000000000)
    (h1 : ∀ k, Fv k → base ≤ k ∧ k < W.heap.size ∧ k ≠ b ∧ row.ownBlock ≠ some k) (h2 : ∀ i k, F i k → ¬ Fv k) :
    Calls Tryz.prog 11 #[.pointer (some ⟨b, 0, none⟩), .slice A n c] W (Kept base b row (.slice A n c) ps F Fv W) := by
  have HK := aside' (keep_any base b row ps F A n c Fv W h hN h1 h2)
  clear h h1 h2
  go_enter Tryz.func11, Tryz.ntmps11
  go_wp2_with fail
  refine Calls.mono HK.out ?_
  rintro e w' ⟨⟨u, rfl⟩, hk⟩
  go_wp2
  go_end0
  exact ⟨⟨_, rfl⟩, hk⟩
/-- The book's block, when it was written down whole; F: the blocks that are kept apart from it. -/
theorem Bk.freshF (W : World) (base : Nat) (F : Nat → Nat → Prop) (hb : base ≤ W.heap.size) (h1 : ∀ i k, F i k → base ≤ k ∧ k < W.heap.size) (h2 : ∀ i j k, F i k → F j k → i = j) : Bk ((W.alloc (.cells (bookCells 0 (.slice none 0 0)) 61)).setRow W.heap.size (bookCells 0 (.slice none 0 0))) base W.heap.size (.slice none 0 0) [] F ∧
    Foot (fun _ => False) W ((W.alloc (.cells (bookCells 0 (.slice none 0 0)) 61)).setRow W.heap.size (bookCells 0 (.slice none 0 0))) :=
  ⟨⟨setRow_heap _ _ _ _ _ _ (heap_alloc_new W _), World.ownsRow_nil _ _ _ _, by simp [Value.ownBlock], hb, fun i k h => ⟨(h1 i k h).1, by have := (h1 i k h).2; simp; omega, by have := (h1 i k h).2; omega, by simp [Value.ownBlock]⟩, h2⟩,
   ⟨rfl, rfl, rfl, by simp, fun k hk _ => (setRow_other _ _ k _ (by omega)).trans (Below.heap_alloc W _ k hk)⟩⟩
/-- The zone of a book: what it writes or holds. -/
def Zo (b : Nat) (row : Value) (F : Nat → Nat → Prop) (q : Nat) : Prop := q = b ∨ row.ownBlock = some q ∨ ∃ i, F i q
/-- A book and its lists. -/
structure Bs (W : World) (base b : Nat) (row : Value) (ps : List (Value × Value)) (F : Nat → Nat → Prop) (ns : Nat → Nat) : Prop where
  bk : Bk W base b row ps F
  fi : Fill W base ps ns F 0
  hn : ∀ j, ns j ≤ 140737488355200
section
variable {W W' : World} {base b : Nat} {row : Value} {ps : List (Value × Value)} {F : Nat → Nat → Prop} {ns : Nat → Nat}
theorem Bs.lt (h : Bs W base b row ps F ns) (q : Nat) (hq : Zo b row F q) : base ≤ q ∧ q < W.heap.size := by
  rcases hq with rfl | hq | ⟨i, hq⟩
  · exact ⟨h.bk.bb, (Array.getElem?_eq_some_iff.1 h.bk.hb).1⟩
  · exact own_lt h.bk.hr q hq
  · exact ⟨(h.bk.fl i q hq).1, (h.bk.fl i q hq).2.1⟩
/-- Work that leaves the book's zone alone. -/
theorem Bs.foot {G : Nat → Prop} (h : Bs W base b row ps F ns) (hf : Foot G W W') (hG : ∀ q, Zo b row F q → ¬ G q) : Bs W' base b row ps F ns :=
  ⟨h.bk.foot hf (hG b (.inl rfl)) (fun q hq => hG q (.inr (.inl hq))), h.fi.foot hf (fun j q hq => hG q (.inr (.inr ⟨j, hq⟩))), h.hn⟩
theorem Bs.later (h : Bs W base b row ps F ns) (hb : Below W.heap.size W W') : Bs W' base b row ps F ns := h.foot (Foot.ofBelow hb (fun _ => False)) (fun _ _ h => h)
theorem L1.mono {n : Nat} {v : Value} {G H : Nat → Prop} (h : L1 W base G v n) (hm : ∀ k, G k → H k) : L1 W base H v n := by
  obtain ⟨xs, h1, h2⟩ := h
  exact ⟨xs, h1, fun k hk => hm k (h2 k hk)⟩
/-- One list more, a row of its own in blocks apart. -/
theorem Bs.keep {A : Option Addr} {n c base2 : Nat} {xs : List Int} (h : Bs W base b row ps F ns) (hN : ps.length ≤ 1000000000) (hb2 : base ≤ base2) (ho : W.ownsRow base2 5 1 (.slice A n c) n (nums .u8 xs)) (hn : n ≤ 140737488355200) (hz : ∀ q, (Value.slice A n c).ownBlock = some q → ¬ Zo b row F q) :
    Calls Tryz.prog 11 #[.pointer (some ⟨b, 0, none⟩), .slice A n c] W fun e w' => (∃ u, e = .returned u) ∧ ∃ row' F' ns', Bs w' base b row' (ps ++ [(.slice A n c, .slice none 0 0)]) F' ns' ∧ Foot (Zo b row F) W w' ∧ ∀ q, Zo b row' F' q → Zo b row F q ∨ (Value.slice A n c).ownBlock = some q ∨ W.heap.size ≤ q := by
  have hlt := own_lt ho
  refine (bytes_keep base b row ps F A n c (fun q => (Value.slice A n c).ownBlock = some q) W h.bk hN (fun q hq => ⟨Nat.le_trans hb2 (hlt q hq).1, (hlt q hq).2, fun e => hz q hq (.inl e), fun e => hz q hq (.inr (.inl e))⟩) (fun i q hq hv => hz q hv (.inr (.inr ⟨i, hq⟩)))).mono ?_
  rintro e w' ⟨hu, row', hk, hf, hr⟩
  refine ⟨hu, row', _, fun j => if j = ps.length then n else ns j, ⟨hk, ?_, ?_⟩, hf.mono (fun q _ hq => hq.elim .inl (fun h => .inr (.inl h))), ?_⟩
  · intro j p hp
    rcases Nat.lt_or_ge j ps.length with hj | hj
    · rw [List.getElem?_append_left hj] at hp
      obtain ⟨h1, _, h3⟩ := h.fi j p hp
      refine ⟨h1, fun h => by omega, fun _ => ?_⟩
      show L1 w' base _ p.1 (if j = ps.length then n else ns j)
      rw [if_neg (by omega)]
      exact ((h3 (Nat.zero_le _)).foot hf (fun q hq hq' => by have := h.bk.fl j q hq; exact hq'.elim this.2.2.1 this.2.2.2)).mono (fun q hq => .inl hq)
    · rw [List.getElem?_append_right hj] at hp
      have hj0 : j = ps.length := by
        rcases Nat.eq_or_lt_of_le hj with e | h
        · exact e.symm
        · rw [List.getElem?_eq_none (by simp; omega)] at hp; cases hp
      subst hj0
      simp at hp
      subst hp
      refine ⟨rfl, fun h => by omega, fun _ => ?_⟩
      show L1 w' base _ (.slice A n c) (if ps.length = ps.length then n else ns ps.length)
      rw [if_pos rfl]
      exact ⟨xs, own_foot (own_base' ho hb2) hf (fun q hq hq' => hq'.elim (fun e => hz q hq (.inl e)) (fun e => hz q hq (.inr (.inl e)))), fun q hq => .inr ⟨rfl, hq⟩⟩
  · intro j
    split
    · exact hn
    · exact h.hn j
  · rintro q (rfl | hq | ⟨i, hq | ⟨_, hq⟩⟩)
    · exact .inl (.inl rfl)
    · exact (hr q hq).imp (fun h => .inr (.inl h)) .inr
    · exact .inl (.inr (.inr ⟨i, hq⟩))
    · exact .inr (.inl hq)
theorem Bs.apart (h : Bs W base b row ps F ns) (hN : ps.length ≤ 1000000000) :
    Calls Tryz.prog 12 #[.pointer (some ⟨b, 0, none⟩)] W fun e w' => e = .returned (.bool true) ∧ Foot (Zo b row F) W w' :=
  (apart_any base b row ps ns F W h.bk hN h.hn h.fi).mono fun e w' ⟨he, hf⟩ => ⟨he, hf.mono (fun q _ hq => .inr hq)⟩
end
/-- An empty book. -/
theorem Bs.zero (W : World) (base : Nat) (hb : base ≤ W.heap.size) : Bs ((W.alloc (.cells (bookCells 0 (.slice none 0 0)) 61)).setRow W.heap.size (bookCells 0 (.slice none 0 0))) base W.heap.size (.slice none 0 0) [] (fun _ _ => False) (fun _ => 0) ∧
    Foot (fun _ => False) W ((W.alloc (.cells (bookCells 0 (.slice none 0 0)) 61)).setRow W.heap.size (bookCells 0 (.slice none 0 0))) :=
  have h := Bk.freshF W base (fun _ _ => False) hb (fun _ _ h => h.elim) (fun _ _ _ h => h.elim)
  ⟨⟨h.1, fun j p hp => by simp at hp, fun _ => by omega⟩, h.2⟩
end Go.Proofs.YtmoakgkoahjijaaGreatDoor

/- A twin of bytes, with a spare one behind it; what is left of it; sizes. -/
set_option linter.unusedVariables false
set_option linter.unusedSimpArgs false
namespace Go.Proofs.YtmoakgkoahjijaaGreatDoor
open Go.RowKit

theorem infoByteT : (Tryz.prog.info? 5).map (fun i => (i.zero, i.size, i.bytes)) = some (some (.int .u8 0), 1, 1) := by kernel_rfl

theorem make0_u8 (m : Nat) (h : m ≤ 140737488355328) : ∀ W : World, (Instr.makeSlice 24 (.int .i64 0) (.int .i64 (m : Int))).run Tryz.prog W = .ok (.slice (some ⟨W.heap.size, 0, none⟩) 0 m) (W.alloc (.cells (madeCells #[.int .u8 0] m) 5)) := by
  intro W
  obtain ⟨i, hi, hzz⟩ := Option.map_eq_some_iff.1 infoByteT
  simp only [Prod.mk.injEq] at hzz
  obtain ⟨hz, hs, hb⟩ := hzz
  have := run_make (P := Tryz.prog) W 24 5 i (.int .u8 0) Tryz.underlying24 hi hz .i64 .i64 0 m (by omega) (by omega) (by rw [hb]; omega) (by omega)
  rw [hs] at this
  simpa [Value.cells] using this

/-- A twin of bytes: memory of its own, a spare byte behind it. -/
def TwinAt (w : World) (g k n : Nat) (xs : List Int) : Prop :=
  n + 1 ≤ k ∧ Reads w .u8 (some ⟨g, 0, none⟩) n xs ∧ w.cell? ⟨g, n, none⟩ = some (.int .u8 77) ∧ k ≤ 9223372036854775807
theorem TwinAt.of_own {w : World} {base n : Nat} {e : TypeId} {v : Value} {xs : List Int} (hl : xs.length = n) (h : w.ownsRow base e 1 v (xs ++ [77]).length (nums .u8 (xs ++ [77]))) :
    ∃ g k, v = .slice (some ⟨g, 0, none⟩) (n + 1) k ∧ base ≤ g ∧ g < w.heap.size ∧ TwinAt w g k n xs ∧ w.ownsRow base e 1 (.slice (some ⟨g, 0, none⟩) n k) n (nums .u8 xs) := by
  have hn1 : (xs ++ [(77 : Int)]).length = n + 1 := by simp [hl]
  rw [hn1] at h
  obtain ⟨A, c, hv, hc, HR⟩ := own_reads h
  have hcut : w.ownsRow base e 1 (.slice A n c) n (nums .u8 xs) := by
    have h' := own_cut (A := A) (c := c) (m := n) (hv ▸ h) (by omega)
    rwa [List.take_append_of_le_length (by omega), List.take_of_length_le (by omega)] at h'
  rcases h.2 with ⟨h1, h2⟩ | ⟨g, cap, cur, hv2, hg, hb, hnc, hcm, _⟩
  · omega
  · rw [hv] at hv2
    injection hv2 with e1 _ e3
    subst e1 e3
    have hcell : ∀ j, j < n + 1 → w.cell? ⟨g, j, none⟩ = some (.int .u8 ((xs ++ [77]).getD j 0)) := by
      intro j hj
      obtain ⟨ad, h5, h6⟩ := HR.2.2 (by omega)
      injection h5 with h5
      have := h6 j hj
      rw [← h5, add_plain] at this
      exact this
    refine ⟨g, c, hv, hg, (Array.getElem?_eq_some_iff.1 hb).1, ⟨hnc, ⟨hl, by have := HR.2.1; omega, fun _ => ⟨_, rfl, fun j hj => ?_⟩⟩, ?_⟩, hcut⟩
    · rw [add_plain, hcell j (by omega)]
      rw [List.getD_eq_getElem?_getD, List.getD_eq_getElem?_getD, List.getElem?_append_left (by omega)]
    · refine ⟨?_, by simpa [maxLen] using hcm⟩
      rw [hcell n (by omega), List.getD_eq_getElem?_getD, List.getElem?_append_right (by omega)]
      simp [hl]
theorem TwinAt.below {w w' : World} {g k n : Nat} {xs : List Int} (h : TwinAt w g k n xs) (hg : g < w.heap.size) (hb : Below w.heap.size w w') : TwinAt w' g k n xs :=
  ⟨h.1, h.2.1.below hb, (hb.cell (p := ⟨g, n, none⟩) hg).trans h.2.2.1, h.2.2.2⟩
theorem TwinAt.drewN {w : World} {g k n : Nat} {xs : List Int} (h : TwinAt w g k n xs) (m : Nat) : TwinAt (w.drewN m) g k n xs := h

set_option maxHeartbeats 1600000 in
set_option maxRecDepth 100000 in
theorem twin_any (A : Option Addr) (n c : Nat) (xs : List Int) (w : World) (HR : Reads w .u8 A n xs) (hn : n ≤ 1048576) :
    Calls Tryz.prog 13 #[.slice A n c] w fun e w' => ∃ g k, e = .returned (.slice (some ⟨g, 0, none⟩) n k) ∧ w.heap.size ≤ g ∧ g < w'.heap.size ∧ TwinAt w' g k n xs ∧ Below w.heap.size w w' ∧ w'.ownsRow w.heap.size 5 1 (.slice (some ⟨g, 0, none⟩) n k) n (nums .u8 xs) := by
  have HA : Aside (Reads w .u8 A n xs) := HR
  have hmk := make0_u8 (n + 1) (by omega)
  have hc1 : ((n + 1 : Nat) : Int) = (n : Int) + 1 := by omega
  rw [hc1] at hmk
  clear HR
  go_enter Tryz.func13, Tryz.ntmps13
  have HO : Aside ((w.alloc (.cells (madeCells #[.int .u8 0] (n + 1)) 5)).ownsRow w.heap.size 5 1 (.slice (some ⟨w.heap.size, 0, none⟩) 0 (n + 1)) 0 []) := World.ownsRow_made w _ (n + 1) (Nat.le_refl _) (by simp [maxLen]; omega) (by simp [size_madeCells])
  have hB0 : Below w.heap.size w (w.alloc (.cells (madeCells #[.int .u8 0] (n + 1)) 5)) := (Below.refl _ _).alloc (Nat.le_refl _) _
  go_wp2
  go_loopw [3, 4] (fun v i wr => ∃ k : Nat, k ≤ n ∧ i = .int .i64 k ∧ Aside (wr.ownsRow w.heap.size 5 1 v (xs.take k).length (nums .u8 (xs.take k))) ∧ Below w.heap.size w wr) (fun _ i _ => n - (intOf i).toNat)
  case atStart => exact ⟨0, Nat.zero_le _, rfl, by simpa [nums, Aside] using HO.out, hB0⟩
  case round =>
    obtain ⟨k, hk, rfl, hO, hB⟩ := hrel
    have hsz := hB.size
    have hlk : (xs.take k).length = k := by rw [List.length_take, HA.out.1]; omega
    obtain ⟨D, L, d, rfl, HL⟩ := own_form hO.out
    by_cases hlt : k < n
    · obtain ⟨a, rfl, hca0⟩ := HA.out.at_ (k : Int) (by omega) (by omega)
      have hblk := HA.out.block_lt a rfl (by omega)
      simp only [Int.toNat_natCast, rd] at hca0
      have hca : wr.cell? (a.add k) = some (.int .u8 (xs.getD k 0)) := by rw [hB.cell (by rw [add_block]; exact hblk)]; exact hca0
      have hsn : Aside (xs.take (k + 1) = xs.take k ++ [xs.getD k 0]) := by
        rw [List.take_succ_eq_append_getElem (by rw [HA.out.1]; exact hlt)]
        simp [Aside, List.getD_eq_getElem?_getD, List.getElem?_eq_getElem (show k < xs.length by rw [HA.out.1]; exact hlt)]
      have HLK : Aside ((xs.take k).length = k) := hlk
      generalize xs.getD k 0 = x at *
      clear hca0 hlk
      have hk0 : (0 : Int) ≤ (k : Int) := by omega
      have hk1 : (k : Int) < (n : Int) := by omega
      have HR1 : Aside (Reads (wr.alloc (.cells #[.int .u8 x] 5)) .u8 (some ⟨wr.heap.size, 0, none⟩) 1 [x]) := ⟨rfl, by omega, fun _ => ⟨_, rfl, fun j hj => by
        obtain rfl : j = 0 := by omega
        rw [add_plain, cellOf (heap_alloc_new wr _)]; rfl⟩⟩
      have HO1 : Aside ((wr.alloc (.cells #[.int .u8 x] 5)).ownsRow w.heap.size 5 1 (.slice D L d) (xs.take k).length (nums .u8 (xs.take k))) := hO.out.alloc _
      go_wp2_with (at_builtin; refine append_row w.heap.size rfl _ _ 24 5 .u8 1 rfl Tryz.underlying24 infoByteT (by omega) (.slice D L d) (xs.take k) [x] _ 1 1 rfl rfl HO1.out HR1.out (by simp; omega) (by rw [HLK.out]; omega) ?_; intro v1 w1 hown hg hat)
      go_roundw
      case rel => exact ⟨k + 1, by omega, by go_num, by rw [hsn.out]; exact hown, hB.trans (((Below.refl _ wr).alloc hsz _).trans (own_grown HO1.out hg (by simp; omega)))⟩
      case measure => simp [intOf]; omega
    · obtain rfl : k = n := by omega
      have hall : xs.take k = xs := List.take_of_length_le (by rw [HA.out.1]; exact Nat.le_refl _)
      rw [hall] at hO
      have HLK : Aside (xs.length = k) := HA.out.1
      clear hall hlk
      have HR1 : Aside (Reads (wr.alloc (.cells #[.int .u8 77] 5)) .u8 (some ⟨wr.heap.size, 0, none⟩) 1 [77]) := ⟨rfl, by omega, fun _ => ⟨_, rfl, fun j hj => by
        obtain rfl : j = 0 := by omega
        rw [add_plain, cellOf (heap_alloc_new wr _)]; rfl⟩⟩
      have HO1 : Aside ((wr.alloc (.cells #[.int .u8 77] 5)).ownsRow w.heap.size 5 1 (.slice D L d) xs.length (nums .u8 xs)) := hO.out.alloc _
      go_wp2_with (at_builtin; refine append_row w.heap.size rfl _ _ 24 5 .u8 1 rfl Tryz.underlying24 infoByteT (by omega) (.slice D L d) xs [77] _ 1 1 rfl rfl HO1.out HR1.out (by simp; omega) (by rw [HLK.out]; omega) ?_; intro v1 w1 hown hg hat; obtain ⟨g, q, rfl, hbg, hgs, HT, HW⟩ := TwinAt.of_own HLK.out hown; have hq1 := HT.1; have hq2 : ((k:Nat):Int) ≤ (q:Int) := by omega)
      go_ret
      exact ⟨g, q, rfl, hbg, hgs, HT, hB.trans (((Below.refl _ wr).alloc hsz _).trans (own_grown HO1.out hg (by simp; omega))), HW⟩

set_option maxHeartbeats 1600000 in
theorem left_any (g k n d : Nat) (B : Option Addr) (xs : List Int) (w : World) (HT : TwinAt w g k n xs) (HR : Reads w .u8 B n xs) :
    Calls Tryz.prog 16 #[.slice (some ⟨g, 0, none⟩) n k, .slice B n d] w fun e w' => e = .returned (.bool true) ∧ ∃ q, w' = w.drewN q := by
  have hnk := HT.1
  have HA : Aside (TwinAt w g k n xs ∧ Reads w .u8 B n xs) := ⟨HT, HR⟩
  have hc77 := HT.2.2.1
  have hk := HT.2.2.2
  have hd1 : ((n : Int) != (n : Int)) = false := by simp
  have hd2 : decide ((k : Int) ≤ (n : Int)) = false := decide_eq_false (by omega)
  have hd3 : ((n : Int) + 1 : Int) ≤ (k : Int) := by omega
  have hd4 : (0 : Int) ≤ (n : Int) + 1 := by omega
  have hd5 : ((n : Int) + 1).toNat = n + 1 := by omega
  clear HT HR
  go_enter Tryz.func16, Tryz.ntmps16
  go_wp2
  go_loopw [5] (fun i wr => ∃ j : Nat, j ≤ n ∧ i = .int .i64 j ∧ ∃ q, wr = w.drewN q) (fun i _ => n - (intOf i).toNat)
  case atStart => exact ⟨0, Nat.zero_le _, rfl, 0, rfl⟩
  case round =>
    obtain ⟨j, hj, rfl, q, rfl⟩ := hrel
    by_cases hlt : j < n
    · obtain ⟨a, ha, hca⟩ := HA.out.1.2.1.at_ (j : Int) (by omega) (by omega)
      injection ha with ha
      subst ha
      obtain ⟨b, rfl, hcb⟩ := HA.out.2.at_ (j : Int) (by omega) (by omega)
      simp only [Int.toNat_natCast, rd] at hca hcb
      rw [add_plain] at hca
      generalize xs.getD j 0 = x at *
      have hk0 : (0 : Int) ≤ (j : Int) := by omega
      have hk1 : (j : Int) < (n : Int) := by omega
      have hxx : (x != x) = false := by simp
      go_wp2_with fail
      go_quiet (fail)
      go_wp2
      go_roundw
      case rel => exact ⟨j + 1, by omega, by go_num, _, rfl⟩
      case measure => simp [intOf]; omega
    · obtain rfl : j = n := by omega
      go_wp2
      go_ret
      exact ⟨rfl, _, rfl⟩
end Go.Proofs.YtmoakgkoahjijaaGreatDoor

/- The contract of pointsmanlaw01.SameBytes: it answers whether two slices of bytes are the same. -/
set_option linter.unusedVariables false
set_option linter.unusedSimpArgs false
namespace Go.Proofs.YtmoakgkoahjijaaGreatDoor
open Go.RowKit

theorem take_eq_step {xs ys : List Int} {k : Nat} (hx : k < xs.length) (hy : k < ys.length) (h : xs.take k = ys.take k) (he : xs.getD k 0 = ys.getD k 0) : xs.take (k + 1) = ys.take (k + 1) := by
  rw [List.take_succ_eq_append_getElem hx, List.take_succ_eq_append_getElem hy, h]
  simp [List.getD_eq_getElem?_getD, List.getElem?_eq_getElem hx, List.getElem?_eq_getElem hy] at he
  rw [he]

set_option maxHeartbeats 800000 in
theorem same_bytes (A B : Option Addr) (n c m d : Nat) (xs ys : List Int) (w : World) (HA : Reads w .u8 A n xs) (HB : Reads w .u8 B m ys) :
    Calls Tryz.prog 9 #[.slice A n c, .slice B m d] w fun e w' => e = .returned (.bool (decide (xs = ys))) ∧ ∃ q, w' = w.drewN q := by
  have hn := HA.2.1
  have hm := HB.2.1
  have lx := HA.1
  have ly := HB.1
  by_cases hnm : n = m
  · subst hnm
    have L : Aside (xs.length = n ∧ ys.length = n) := ⟨lx, ly⟩
    have HA' : Aside (Reads w .u8 A n xs) := HA
    have HB' : Aside (Reads w .u8 B n ys) := HB
    clear lx ly HA HB
    go_enter Tryz.func9, Tryz.ntmps9
    go_wp2
    go_loopw [5] (fun i wr => ∃ k : Nat, k ≤ n ∧ i = .int .i64 k ∧ Aside (xs.take k = ys.take k) ∧ ∃ q, wr = w.drewN q) (fun i _ => n - (intOf i).toNat)
    case atStart => exact ⟨0, Nat.zero_le _, rfl, by simp [Aside], 0, rfl⟩
    case round =>
      obtain ⟨k, hk, rfl, ht, q, rfl⟩ := hrel
      by_cases hlt : k < n
      · obtain ⟨a, rfl, hca⟩ := HA'.out.at_ (k : Int) (by omega) (by omega)
        obtain ⟨b, rfl, hcb⟩ := HB'.out.at_ (k : Int) (by omega) (by omega)
        simp only [Int.toNat_natCast, rd] at hca hcb
        obtain ⟨x, hx⟩ : ∃ x, x = xs.getD k 0 := ⟨_, rfl⟩
        obtain ⟨y, hy⟩ : ∃ y, y = ys.getD k 0 := ⟨_, rfl⟩
        rw [← hx] at hca
        rw [← hy] at hcb
        have HX : Aside (x = xs.getD k 0 ∧ y = ys.getD k 0) := ⟨hx, hy⟩
        clear hx hy
        have hk0 : (0 : Int) ≤ (k : Int) := by omega
        have hk1 : (k : Int) < (n : Int) := by omega
        by_cases hxy : x = y
        · have hb : (x != y) = false := by simp [hxy]
          have HE : Aside (x = y) := hxy
          clear hxy
          go_wp2_with fail
          go_quiet (fail)
          go_wp2
          go_roundw
          case rel => exact ⟨k + 1, by omega, by go_num, take_eq_step (by rw [L.out.1]; exact hlt) (by rw [L.out.2]; exact hlt) ht.out (by rw [← HX.out.1, ← HX.out.2]; exact HE.out), _, rfl⟩
          case measure => simp [intOf]; omega
        · have hb : (x != y) = true := by simp [hxy]
          have HE : Aside (¬ x = y) := hxy
          clear hxy
          go_wp2_with fail
          go_quiet (fail)
          go_wp2
          go_ret
          refine ⟨?_, by first | exact ⟨_, rfl⟩ | exact ⟨_, World.drewN_drewN ..⟩⟩
          have hne : decide (xs = ys) = false := decide_eq_false (fun e => HE.out (by rw [HX.out.1, HX.out.2, e]))
          rw [hne]
          rfl
      · obtain rfl : k = n := by omega
        go_wp2
        go_ret
        refine ⟨?_, _, rfl⟩
        have e1 := ht.out
        rw [List.take_of_length_le (by rw [L.out.1]; exact Nat.le_refl _), List.take_of_length_le (by rw [L.out.2]; exact Nat.le_refl _)] at e1
        rw [decide_eq_true e1]
        rfl
  · have hb : ((n : Int) != (m : Int)) = true := by simp; omega
    have hne : decide (xs = ys) = false := decide_eq_false (fun e => hnm (by rw [← lx, ← ly, e]))
    rw [hne]
    clear hne lx ly HA HB
    go_enter Tryz.func9, Tryz.ntmps9
    go_wp2
    go_ret
    exact ⟨rfl, 0, rfl⟩
end Go.Proofs.YtmoakgkoahjijaaGreatDoor
