/-
  A book of bytes: all lists have their marks, and what was put behind each.
-/
import Derived.Test.YtdgilloblfbklabGreatDoorB3G
import Derived.Test.YtdgilloblfbklabGreatDoorClassRegion
set_option linter.unusedVariables false
set_option linter.unusedSimpArgs false
namespace Go.Proofs.YtdgilloblfbklabGreatDoor.Own
open Go.RowKit

set_option maxRecDepth 100000 in
set_option maxHeartbeats 3200000 in
theorem book_look (base b : Nat) (row : Value) (ps : List (Value × Value)) (ns : Nat → Nat) (F : Nat → Nat → Prop) (W : World) (h : Bk W base b row ps F) (hN : ps.length ≤ 1000000000) (hns : ∀ j, ns j ≤ 140737488355200) (h1 : Grow W base ps ns F ps.length) :
    Calls Tryz.prog 85 #[.pointer (some ⟨b, 0, none⟩)] W fun e w' => e = .returned (.bool true) ∧ Foot (fun _ => False) W w' := by
  have H0 := aside' (And.intro h h1)
  have HNS := aside' hns
  clear h h1 hns
  obtain ⟨N, hNe⟩ : ∃ N, N = ps.length := ⟨_, rfl⟩
  rw [← hNe] at hN
  have HNe := aside' hNe
  clear hNe
  go_enter Tryz.func85, Tryz.ntmps85
  go_wp2
  go_loopw [3] (fun i wr => ∃ k : Nat, k ≤ N ∧ i = .int .i64 k ∧ Aside (Foot (fun _ => False) W wr)) (fun i _ => N - (intOf i).toNat)
  case atStart => exact ⟨0, Nat.zero_le _, rfl, Foot.refl _ _⟩
  case round =>
    obtain ⟨k, hk, rfl, HI⟩ := hrel
    have hbk : Bk wr base b row ps F := H0.out.1.foot HI.out (fun h => h) (fun _ _ h => h)
    have hbc : wr.cell? ⟨b, 2, none⟩ = some row := cellOf hbk.hb 2
    obtain ⟨Ar, Lr, cr0, hrow, HLr⟩ := own_form hbk.hr
    have hLr := HLr.out.trans HNe.out.symm
    clear HLr
    subst hLr
    subst hrow
    by_cases hlt : k < Lr
    · have g1 : decide ((k : Int) < (Lr : Int)) = true := decide_eq_true (by omega)
      have g1n : decide (k < Lr) = true := decide_eq_true hlt
      obtain ⟨p, hp⟩ : ∃ p, ps[k]? = some p := ⟨_, List.getElem?_eq_getElem (by have := HNe.out; omega)⟩
      obtain ⟨r, cr, hr, hrl, hcr, e1, e2, e3⟩ := hbk.at hp
      injection hr with hr1 hr2 hr3
      subst hr1
      subst hr3
      have hL3 := ((H0.out.2 k p hp).1 (by have := HNe.out; omega)).foot HI.out (fun _ _ h => h) (fun q hq => (H0.out.1.fl k q hq).2.1)
      obtain ⟨v, lg⟩ := p
      simp only at e1 e2 hL3
      obtain ⟨hown, hlF, A, c, rfl, hnc, hrd, hA⟩ := hL3
      have hnb := HNS.out k
      obtain ⟨g, cl, rfl, hgb, hgl, hgc, _⟩ := hown.some_ (by omega)
      have i0 : (0 : Int) ≤ (k : Int) := by omega
      have i1 : (k : Int) < (Lr : Int) := by omega
      have hal := (Foot.refl (fun _ => False) wr).alloc (.cells #[.slice A (ns k) c, .slice (some ⟨g, 0, none⟩) (ns k + 40) cl, .int .i64 ((k : Int) + 1)] 113)
      have HBX := aside' (heap_alloc_new wr (.cells #[.slice A (ns k) c, .slice (some ⟨g, 0, none⟩) (ns k + 40) cl, .int .i64 ((k : Int) + 1)] 113))
      have HF1 := aside' (HI.out.alloc (.cells #[.slice A (ns k) c, .slice (some ⟨g, 0, none⟩) (ns k + 40) cl, .int .i64 ((k : Int) + 1)] 113))
      have hrd1 : Reads (wr.alloc (.cells #[.slice A (ns k) c, .slice (some ⟨g, 0, none⟩) (ns k + 40) cl, .int .i64 ((k : Int) + 1)] 113)) .u8 A (ns k) (List.replicate (ns k) (mark k)) := reads_keep hrd (fun ad e hn0 => by
        obtain ⟨g2, hg2, hF2⟩ := hA hn0
        rw [hg2] at e
        injection e with e
        subst e
        have h3 := (H0.out.1.fl k g2 hF2).2.1
        have hs := HI.out.size
        exact Below.heap_alloc wr _ g2 (by omega))
      have HOW := aside' (And.intro (hown.foot hal (fun _ _ h => h)) (And.intro hrd1 hA))
      clear hr2 hown hlF hrd hA hp hal hrd1
      generalize ns k = n at *
      go_upto_region 5 with fail
      generalize wr.alloc (.cells #[.slice A n c, .slice (some ⟨g, 0, none⟩) (n + 40) cl, .int .i64 ((k : Int) + 1)] 113) = W0 at *
      have b0 : W0.cell? ⟨wr.heap.size, 0, none⟩ = some (.slice A n c) := cellOf HBX.out 0
      have b1 : W0.cell? ⟨wr.heap.size, 1, none⟩ = some (.slice (some ⟨g, 0, none⟩) (n + 40) cl) := cellOf HBX.out 1
      have b2 : W0.cell? ⟨wr.heap.size, 2, none⟩ = some (.int .i64 ((k : Int) + 1)) := cellOf HBX.out 2
      have t1 : (((n + 40 : Nat) : Int) != (n : Int) + 40) = false := by simp
      have t2 : (((n : Int) + 40) != (n : Int) + 40) = false := by simp
      clear e1 e2 e3 hbc hbk
      generalize wr.heap.size = q at *
      go_wp2_with fail
      go_loopw [5] (fun kk wr => ∃ m : Nat, m ≤ n + 40 ∧ kk = .int .i64 m ∧ Aside (∃ d, wr = W0.drewN d)) (fun kk _ => n + 40 - (intOf kk).toNat)
      case atStart => exact ⟨0, Nat.zero_le _, rfl, 0, rfl⟩
      case round =>
        obtain ⟨m, hm, rfl, HM⟩ := hrel
        obtain ⟨dd, rfl⟩ := HM.out
        have d0 : (W0.drewN dd).cell? ⟨q, 0, none⟩ = some (.slice A n c) := b0
        have d1 : (W0.drewN dd).cell? ⟨q, 1, none⟩ = some (.slice (some ⟨g, 0, none⟩) (n + 40) cl) := b1
        have d2 : (W0.drewN dd).cell? ⟨q, 2, none⟩ = some (.int .i64 ((k : Int) + 1)) := b2
        by_cases hlt2 : m < n + 40
        · have g2 : decide ((m : Int) < ((n + 40 : Nat) : Int)) = true := decide_eq_true (by omega)
          have g3 : decide ((m : Int) < (n : Int) + 40) = true := decide_eq_true (by omega)
          have g4 : decide (m < n + 40) = true := decide_eq_true hlt2
          have hIS := fun (V : World) => is_any k (by omega) V
          have HIS := aside' hIS
          have cg : W0.cell? ⟨g, m, none⟩ = some (.int .u8 (mark k)) := by
            rw [HOW.out.1.at_ m hlt2]
            simp [List.getD_eq_getElem?_getD, List.getElem?_replicate, hlt2]
          have j0 : (0 : Int) ≤ (m : Int) := by omega
          have j1 : (m : Int) < (n : Int) + 40 := by omega
          have j2 : (m : Int) < ((n + 40 : Nat) : Int) := by omega
          clear hIS HM
          by_cases hlt3 : m < n
          · have g5 : decide ((m : Int) < (n : Int)) = true := decide_eq_true (by omega)
            have g6 : decide (m < n) = true := decide_eq_true hlt3
            obtain ⟨gA, hgA, _⟩ := HOW.out.2.2 (by omega)
            obtain ⟨ad, had, hcs⟩ := HOW.out.2.1.2.2 (by omega)
            rw [hgA] at had
            injection had with had
            subst had
            have cA : W0.cell? ⟨gA, m, none⟩ = some (.int .u8 (mark k)) := by
              have h := hcs m hlt3
              rw [add_plain] at h
              rw [h]
              simp [List.getD_eq_getElem?_getD, List.getElem?_replicate, hlt3]
            subst hgA
            have j3 : (m : Int) < (n : Int) := by omega
            clear hcs
            generalize mark k = mk at *
            go_wp2_with fail
            refine region_class (fun V => ∃ e, V = W0.drewN e) (by kernel_rfl) (by kernel_rfl) ⟨dd + 1, rfl⟩ ?_
            repeat
              (first
                | go_big_quiet_skip
                | (go_big_quiet_want; first
                    | (go_big_quiet_op; go_big_quiet_on)
                    | (unfold Oper.quiet; apply Exists.intro; refine ⟨fun V hV => ?_, ?_⟩
                       · obtain ⟨ee, rfl⟩ := hV
                         go_simp
                         first
                           | with_reducible rfl
                           | (go_at_call 148; refine Calls.mono (HIS.out _) ?_; rintro e w5 ⟨he5, hw5⟩; exact ⟨he5, _, hw5⟩)
                       go_simp
                       go_big_quiet_on)))
            refine wpQuiet_nil ?_
            rintro V ⟨ee, rfl⟩
            go_wp2
            go_roundw
            case rel => exact ⟨m + 1, by omega, by go_num, _, rfl⟩
            case measure => (simp [intOf]; omega)
          · have g5 : decide ((m : Int) < (n : Int)) = false := decide_eq_false (by omega)
            have g6 : decide (m < n) = false := decide_eq_false hlt3
            generalize mark k = mk at *
            go_wp2_with fail
            refine region_class (fun V => ∃ e, V = W0.drewN e) (by kernel_rfl) (by kernel_rfl) ⟨dd + 1, rfl⟩ ?_
            repeat
              (first
                | go_big_quiet_skip
                | (go_big_quiet_want; first
                    | (go_big_quiet_op; go_big_quiet_on)
                    | (unfold Oper.quiet; apply Exists.intro; refine ⟨fun V hV => ?_, ?_⟩
                       · obtain ⟨ee, rfl⟩ := hV
                         go_simp
                         first
                           | with_reducible rfl
                           | (go_at_call 148; refine Calls.mono (HIS.out _) ?_; rintro e w5 ⟨he5, hw5⟩; exact ⟨he5, _, hw5⟩)
                       go_simp
                       go_big_quiet_on)))
            refine wpQuiet_nil ?_
            rintro V ⟨ee, rfl⟩
            go_wp2
            go_roundw
            case rel => exact ⟨m + 1, by omega, by go_num, _, rfl⟩
            case measure => (simp [intOf]; omega)
        · obtain rfl : m = n + 40 := by omega
          have g2 : decide (((n + 40 : Nat) : Int) < ((n + 40 : Nat) : Int)) = false := decide_eq_false (by omega)
          have g3 : decide (((n + 40 : Nat) : Int) < (n : Int) + 40) = false := decide_eq_false (by omega)
          have g4 : decide ((n : Int) + 40 < (n : Int) + 40) = false := decide_eq_false (by omega)
          have HFIN := aside' (HF1.out.drewN dd)
          clear HM
          go_wp2
          go_roundw
          case rel => exact ⟨k + 1, by omega, by go_num, HFIN.out⟩
          case measure => (simp [intOf]; omega)
    · obtain rfl : k = Lr := by omega
      have g1 : decide ((k : Int) < (k : Int)) = false := decide_eq_false (by omega)
      clear hbk
      go_wp2
      go_ret
      exact ⟨rfl, HI.out⟩
end Go.Proofs.YtdgilloblfbklabGreatDoor.Own
