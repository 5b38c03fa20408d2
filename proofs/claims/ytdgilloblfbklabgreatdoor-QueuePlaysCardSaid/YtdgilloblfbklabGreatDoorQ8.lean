/-
  The walk of the law QueuePlays.
-/
import Derived.Test.YtdgilloblfbklabGreatDoorQ7
import Derived.Test.YtdgilloblfbklabGreatDoorLives
import Derived.BigRegion
import Derived.Deep.DeepCutAuto
set_option linter.unusedVariables false
set_option linter.unusedSimpArgs false
namespace Go.Proofs.YtdgilloblfbklabGreatDoor.Own
open Go.RowKit

abbrev Act4 := Bool × Int × List Int × Int
def zAct : Act4 := (false, 0, [], 0)
/-- What is done, as it came in. -/
def ReadsActs (w : World) (A : Option Addr) (n : Nat) (ac : List Act4) : Prop :=
  ac.length = n ∧ n ≤ 9223372036854775807 ∧ (0 < n → ∃ b off, A = some ⟨b, off, none⟩ ∧ b < w.heap.size ∧ ∀ j, j < n → ∃ B d, w.cell? ⟨b, off + j * 4, none⟩ = some (.bool (ac.getD j zAct).1) ∧ w.cell? ⟨b, off + j * 4 + 1, none⟩ = some (.int .i64 (ac.getD j zAct).2.1) ∧
    w.cell? ⟨b, off + j * 4 + 2, none⟩ = some (.slice B (ac.getD j zAct).2.2.1.length d) ∧ w.cell? ⟨b, off + j * 4 + 3, none⟩ = some (.int .i64 (ac.getD j zAct).2.2.2) ∧ (ac.getD j zAct).2.2.1.length ≤ d ∧ d ≤ 9223372036854775807 ∧ (ac.getD j zAct).2.2.1.length ≤ 140737488351232 ∧ Reads w .u8 B (ac.getD j zAct).2.2.1.length (ac.getD j zAct).2.2.1)
theorem QI.rne {w W : World} {q room : Nat} {Lq Lr : List Cp} {Vs Us : List Value} {E : List (Option Nat)} {row row2 : Value} {ps : List (Value × Value)} {F : Nat → Nat → Prop} {ns : Nat → Nat} (h : QI w W q room Lq Lr Vs Us E row ps F ns row2) {o : Option Nat} (ho : o ∈ E ++ (Us ++ Vs).map Value.ownBlock) {k : Nat} (hk : o = some k) : row2.ownBlock ≠ some k :=
  fun e => (List.pairwise_cons.1 h.dj).1 o ho k e hk
/-- The head of a round. -/
def HdQ (w : World) (q room k : Nat) (W : World) : Prop := ∃ L Vs row ps F ns row2, ps.length ≤ k * 65 ∧ QI w W q room L L Vs [] [] row ps F ns row2 ∧ ∀ j, j < L.length → (L.getD j zCp).2.length ≤ 140737488351232
set_option maxRecDepth 100000 in
set_option maxHeartbeats 6400000 in
theorem plays_law (room : Int) (A : Option Addr) (n c : Nat) (ac : List Act4) (w : World) (hR : ReadsActs w A n ac) (hs : ∀ j, j < n → -9223372036854775808 ≤ (ac.getD j zAct).2.2.2 ∧ (ac.getD j zAct).2.2.2 ≤ 9223372036854775807) :
    Calls Tryz.prog 3 #[.int .i64 room, .slice A n c] w fun e w' => e = .returned (.bool true) ∧ Below w.heap.size w w' := by
  have hn := hR.2.1
  have HR := aside' (And.intro hR hs)
  clear hR hs
  by_cases h1 : 3000 < n
  · have g1 : decide (3000 < (n : Int)) = true := decide_eq_true (by omega)
    have HL := aside' (lives_any w)
    go_enter Tryz.func3, Tryz.ntmps3
    go_wp2_with fail
    refine Calls.mono HL.out ?_
    rintro e w1 ⟨rfl, hb⟩
    have HB := aside' hb
    clear hb
    go_wp2
    go_ret
    exact ⟨rfl, HB.out⟩
  · have g1 : decide (3000 < (n : Int)) = false := decide_eq_false (by omega)
    by_cases h2 : room < 0 ∨ 64 < room
    · have HN1 := aside' (New_err room h2 w)
      have HN2 := aside' (RNew_err room h2 w)
      have HS := aside' (Send_nil w 1)
      have HP := aside' (Put_nil w 0 none 0 0)
      go_enter Tryz.func3, Tryz.ntmps3
      go_wp2_with fail
      refine Calls.mono HN1.out ?_
      rintro e w1 ⟨rfl, hw⟩
      have hw := hw
      subst hw
      go_wp2_with fail
      refine Calls.mono HN2.out ?_
      rintro e w2 ⟨rfl, hw⟩
      have hw := hw
      subst hw
      go_wp2_with fail
      refine Calls.mono HS.out ?_
      rintro e w3 ⟨rfl, hw⟩
      have hw := hw
      subst hw
      go_wp2_with fail
      refine Calls.mono HP.out ?_
      rintro e w4 ⟨rfl, hb⟩
      have HB := aside' hb
      have HL := aside' (Len_nil w4)
      clear hb
      go_wp2_with fail
      refine Calls.mono HL.out ?_
      rintro e w5 ⟨rfl, hw⟩
      have hw := hw
      subst hw
      have HL2 := aside' (lives_any w5)
      go_wp2_with fail
      refine Calls.mono HL2.out ?_
      rintro e w6 ⟨rfl, hb⟩
      have HB2 := aside' (HB.out.trans (hb.mono HB.out.size))
      clear hb
      go_wp2
      go_ret
      exact ⟨rfl, HB2.out⟩
    · obtain ⟨rm, rfl⟩ : ∃ rm : Nat, room = (rm : Int) := ⟨room.toNat, by omega⟩
      have hrm : rm ≤ 64 := by omega
      have HN1 := aside' (New_ok rm hrm w)
      have HQ := aside' (QI.start w rm hrm)
      have s1 : (w.alloc (.cells (qz (rm : Int)) 104)).heap.size = w.heap.size + 1 := World.size_alloc _ _
      have HN2 := aside' (RNew_ok rm hrm (w.alloc (.cells (qz (rm : Int)) 104)))
      rw [s1] at HN2
      have s2 : ((w.alloc (.cells (qz (rm : Int)) 104)).alloc (.cells #[.int .i64 (rm : Int), .slice none 0 0] 83)).heap.size = w.heap.size + 2 := by rw [World.size_alloc, s1]
      have HSS := aside' (And.intro s1 s2)
      clear s1 s2
      go_enter Tryz.func3, Tryz.ntmps3
      go_wp2_with fail
      refine Calls.mono HN1.out ?_
      rintro e w1 ⟨rfl, hw⟩
      have HW1 := aside' hw
      clear hw
      rw [← HW1.out] at HN2 HQ HSS
      go_wp2_with fail
      refine Calls.mono HN2.out ?_
      rintro e w2 ⟨rfl, hw⟩
      have HW2 := aside' hw
      clear hw
      rw [← HW2.out] at HQ HSS
      go_upto_region 12 with fail
      have hbc : bookCells 0 (.slice none 0 0) = #[.int .i64 0, .slice none 0 0, .slice none 0 0, .slice none 0 0, .slice none 0 0, .slice none 0 0, .slice none 0 0, .slice none 0 0, .slice none 0 0, .slice none 0 0, .slice none 0 0, .slice none 0 0, .slice none 0 0, .slice none 0 0, .slice none 0 0, .slice none 0 0, .slice none 0 0, .slice none 0 0, .slice none 0 0, .slice none 0 0, .slice none 0 0, .slice none 0 0, .slice none 0 0, .slice none 0 0, .slice none 0 0, .slice none 0 0, .slice none 0 0, .slice none 0 0, .slice none 0 0, .slice none 0 0, .slice none 0 0] := rfl
      rw [HSS.out.2]
      rw [hbc] at HQ
      have HH := aside' (show HdQ w w.heap.size rm 0 (w2.alloc (.cells #[.int .i64 0, .slice none 0 0, .slice none 0 0, .slice none 0 0, .slice none 0 0, .slice none 0 0, .slice none 0 0, .slice none 0 0, .slice none 0 0, .slice none 0 0, .slice none 0 0, .slice none 0 0, .slice none 0 0, .slice none 0 0, .slice none 0 0, .slice none 0 0, .slice none 0 0, .slice none 0 0, .slice none 0 0, .slice none 0 0, .slice none 0 0, .slice none 0 0, .slice none 0 0, .slice none 0 0, .slice none 0 0, .slice none 0 0, .slice none 0 0, .slice none 0 0, .slice none 0 0, .slice none 0 0, .slice none 0 0] 70)) from ⟨[], [], _, _, _, _, _, Nat.zero_le _, HQ.out, fun j hj => by simp at hj⟩)
      clear HQ HSS HW1 HW2 HN1 HN2 hbc
      generalize w2.alloc (.cells #[.int .i64 0, .slice none 0 0, .slice none 0 0, .slice none 0 0, .slice none 0 0, .slice none 0 0, .slice none 0 0, .slice none 0 0, .slice none 0 0, .slice none 0 0, .slice none 0 0, .slice none 0 0, .slice none 0 0, .slice none 0 0, .slice none 0 0, .slice none 0 0, .slice none 0 0, .slice none 0 0, .slice none 0 0, .slice none 0 0, .slice none 0 0, .slice none 0 0, .slice none 0 0, .slice none 0 0, .slice none 0 0, .slice none 0 0, .slice none 0 0, .slice none 0 0, .slice none 0 0, .slice none 0 0, .slice none 0 0] 70) = V0 at *
      generalize w.heap.size = q at *
      go_loopw [12] (fun i wr => ∃ k : Nat, k ≤ n ∧ i = .int .i64 k ∧ Aside (HdQ w q rm k wr)) (fun i _ => n - (intOf i).toNat)
      case atStart => exact ⟨0, Nat.zero_le _, rfl, HH.out⟩
      case round =>
        obtain ⟨k, hk, rfl, HI⟩ := hrel
        obtain ⟨L, Vs, row, ps, F, ns, row2, hps, hqi, hln⟩ := HI.out
        have HQI := aside' (And.intro hqi hln)
        clear HI HH hqi hln
        by_cases hlt : k < n
        · have g3 : decide ((k : Int) < (n : Int)) = true := decide_eq_true (by omega)
          obtain ⟨xb, xo, rfl, hxb, hxs⟩ := HR.out.1.2.2 (by omega)
          obtain ⟨Bd, dd, hc0, hc1, hc2, hc3, hd1, hd2, hd3, hrx⟩ := hxs k hlt
          have hsd := HR.out.2 k hlt
          have hb := HQI.out.1.bl
          have hx0 := (hb.cell (p := ⟨xb, xo + k * 4, none⟩) hxb).trans hc0
          have hx1 := (hb.cell (p := ⟨xb, xo + k * 4 + 1, none⟩) hxb).trans hc1
          have hx2 := (hb.cell (p := ⟨xb, xo + k * 4 + 2, none⟩) hxb).trans hc2
          have hx3 := (hb.cell (p := ⟨xb, xo + k * 4 + 3, none⟩) hxb).trans hc3
          have HXW := aside' (fun (W : World) (hb : Below w.heap.size w W) => hrx.below hb)
          have HX0 := aside' hrx
          generalize (ac.getD k zAct).2.2.1 = xs at *
          generalize (ac.getD k zAct).2.2.2 = sd at *
          generalize (ac.getD k zAct).2.1 = pp at *
          generalize (ac.getD k zAct).1 = pt at *
          have i0 : (0 : Int) ≤ (k : Int) := by omega
          have i1 : (k : Int) < (n : Int) := by omega
          clear hxs hc0 hc1 hc2 hc3 hb hrx
          go_upto_region 15 with fail
          have ha : Below wr.heap.size wr (wr.alloc (.cells #[.bool pt, .int .i64 pp, .slice Bd xs.length dd, .int .i64 sd] 72)) := (Below.refl _ _).alloc (Nat.le_refl _) _
          have hbx := heap_alloc_new wr (.cells #[.bool pt, .int .i64 pp, .slice Bd xs.length dd, .int .i64 sd] 72)
          have HW := aside' (And.intro (HQI.out.1.watch ha wr.heap.size (Nat.le_refl _) (Array.getElem?_eq_some_iff.1 hbx).1) hbx)
          have HLN0 := aside' HQI.out.2
          clear ha hbx HQI hx0 hx1 hx2 hx3
          generalize wr.alloc (.cells #[.bool pt, .int .i64 pp, .slice Bd xs.length dd, .int .i64 sd] 72) = W1 at *
          generalize wr.heap.size = x at *
          have y0 : W1.cell? ⟨x, 0, none⟩ = some (.bool pt) := cellOf HW.out.2 0
          have y1 : W1.cell? ⟨x, 1, none⟩ = some (.int .i64 pp) := cellOf HW.out.2 1
          have y2 : W1.cell? ⟨x, 2, none⟩ = some (.slice Bd xs.length dd) := cellOf HW.out.2 2
          have y3 : W1.cell? ⟨x, 3, none⟩ = some (.int .i64 sd) := cellOf HW.out.2 3
          cases pt with
          | true =>
            have HTW := aside' (twin_any Bd xs.length dd xs W1 (HXW.out _ HW.out.1.bl) hd3)
            go_wp2_with fail
            refine Calls.mono HTW.out ?_
            rintro e W2 ⟨g, kt, rfl, hg1, hg2, htw, hb2, hown⟩
            have hq2 := HW.out.1.more hb2 (FRow.of_own hown) hd3
            have hbx2 := (hb2.block x (Array.getElem?_eq_some_iff.1 HW.out.2).1).trans HW.out.2
            have hgq := HW.out.1.bW
            have hgx : q + 2 < g := by omega
            have hxq : q + 2 ≤ x := (HW.out.1.ae (o := some x) (by simp) rfl).1
            have hkt := htw.1
            have hkt2 := htw.2.2.2
            have H2 := aside' (And.intro hq2 (And.intro hbx2 htw))
            clear HTW hg1 hg2 htw hb2 hown hq2 hbx2 y0 y1 y2 y3
            have y1 : W2.cell? ⟨x, 1, none⟩ = some (.int .i64 pp) := cellOf H2.out.2.1 1
            have y2 : W2.cell? ⟨x, 2, none⟩ = some (.slice Bd xs.length dd) := cellOf H2.out.2.1 2
            by_cases hful : L.length < rm
            · have HP := aside' (H2.out.1.qPut hful pp (some ⟨g, 0, none⟩) xs.length kt xs H2.out.2.2.2.1 hd3 (fun e => by cases e) (fun ad e _ => by cases e; show g ≠ q; omega))
              go_wp2_with fail
              refine Calls.mono HP.out ?_
              rintro e W3 ⟨rfl, v, hq3, hf3⟩
              have hbx3 := hf3.blk H2.out.2.1 (by omega)
              have htw3 := twin_blk H2.out.2.2 (hf3.block g (H2.out.1.au (v := .slice (some ⟨g, 0, none⟩) xs.length kt) (by simp) rfl).2.1 (by omega))
              have HP2 := aside' (hq3.rPut hful hrm pp Bd dd xs HX0.out)
              have H3 := aside' (And.intro hq3 (And.intro hbx3 htw3))
              clear hq3 hbx3 htw3 hf3 HP H2 y1 y2
              have y1 : W3.cell? ⟨x, 1, none⟩ = some (.int .i64 pp) := cellOf H3.out.2.1 1
              have y2 : W3.cell? ⟨x, 2, none⟩ = some (.slice Bd xs.length dd) := cellOf H3.out.2.1 2
              go_wp2_with fail
              refine Calls.mono HP2.out ?_
              rintro e W4 ⟨rfl, row3, hq4, hf4⟩
              have hnx : ¬ (x = q + 1 ∨ row2.ownBlock = some x) := fun e => e.elim (fun e => by omega) (H3.out.1.rne (o := some x) (by simp) rfl)
              have hng : ¬ (g = q + 1 ∨ row2.ownBlock = some g) := fun e => e.elim (fun e => by omega) (H3.out.1.rne (o := some g) (by simp [Value.ownBlock]) rfl)
              have hbx4 := hf4.blk H3.out.2.1 hnx
              have htw4 := twin_blk H3.out.2.2 (hf4.block g (H3.out.1.au (v := .slice (some ⟨g, 0, none⟩) xs.length kt) (by simp) rfl).2.1 hng)
              clear hnx hng hf4 HP2 H3 y1 y2
              have y1 : W4.cell? ⟨x, 1, none⟩ = some (.int .i64 pp) := cellOf hbx4 1
              have y2 : W4.cell? ⟨x, 2, none⟩ = some (.slice Bd xs.length dd) := cellOf hbx4 2
              clear hbx4
              have HLF := aside' (left_any g kt xs.length dd Bd xs W4 htw4 (HXW.out _ hq4.bl))
              have HQ4 := aside' hq4
              clear htw4 hq4
              go_wp2_with fail
              refine Calls.mono HLF.out ?_
              rintro e W5 ⟨rfl, q5, rfl⟩
              have hq5 := HQ4.out.later (below_drewN (Below.refl _ _) q5)
              have HKP := aside' (hq5.keep (by omega))
              have HQ5 := aside' hq5
              clear hq5 HQ4 HLF
              generalize W4.drewN q5 = W5 at *
              go_wp2_with fail
              refine Calls.mono HKP.out ?_
              rintro e W6 ⟨⟨u6, rfl⟩, row6, ps6, F6, ns6, hp6, hq6, _⟩
              have HT : Aside (HdQ w q rm (k + 1) W6) := aside' ⟨_, _, row6, ps6, F6, ns6, _, by omega, hq6.drop, fun j hj => by
                  simp only [List.length_append, List.length_singleton] at hj
                  rcases Nat.lt_or_ge j L.length with h' | h'
                  · rw [show (L ++ [(pp, xs)]).getD j zCp = L.getD j zCp by simp only [List.getD_eq_getElem?_getD, List.getElem?_append_left h']]; exact HLN0.out j h'
                  · obtain rfl : j = L.length := by omega
                    rw [show (L ++ [(pp, xs)]).getD L.length zCp = (pp, xs) by simp]; exact hd3⟩
              clear hq6 HKP HQ5 hp6
              obtain ⟨L9, Vs9, row9, ps9, F9, ns9, row29, hps9, hqi9, hln9⟩ := HT.out
              obtain ⟨ring9, ports9, fr9, hqa9, _⟩ := hqi9.qa
              have HLN := aside' (fun (e : Nat) => Len_ok (W6.drewN e) q rm ring9 ports9 fr9 L9.length (hqa9.box.below (below_drewN (Below.refl _ _) e)))
              obtain ⟨A9, c9, rfl, _⟩ := hqi9.rf.form
              have t9 := cellOf hqi9.rf.hb 1
              simp only [List.getElem?_toArray, List.getElem?_cons_zero, List.getElem?_cons_succ] at t9
              have HFIN := aside' (fun (e : Nat) => show HdQ w q rm (k + 1) (W6.drewN e) from ⟨L9, Vs9, row9, ps9, F9, ns9, _, hps9, hqi9.later (below_drewN (Below.refl _ _) e), hln9⟩)
              have e9 : ((L9.length : Int) != (L9.length : Int)) = false := by simp
              generalize L9.length = n9 at *
              clear hqi9 hln9 hqa9 HT hps9
              go_wp2_with fail
              refine region_class (fun V => ∃ e, V = W6.drewN e) (by kernel_rfl) (by kernel_rfl) ⟨1, rfl⟩ ?_
              repeat
                (first
                  | go_big_quiet_skip
                  | (go_big_quiet_want; first
                      | (go_big_quiet_op; go_big_quiet_on)
                      | (unfold Oper.quiet; apply Exists.intro; refine ⟨fun V hV => ?_, ?_⟩
                         · obtain ⟨ee, rfl⟩ := hV
                           have d9 : (W6.drewN ee).cell? ⟨q + 1, 1, none⟩ = some (.slice A9 n9 c9) := t9
                           go_simp
                           first
                             | with_reducible rfl
                             | (go_at_call 9; refine Calls.mono (HLN.out ee) ?_; rintro e w5 ⟨he5, hw5⟩; exact ⟨he5, ee, hw5⟩)
                         go_simp
                         go_big_quiet_on)))
              refine wpQuiet_nil ?_
              rintro V9 ⟨ee, rfl⟩
              have HF2 := aside' (HFIN.out ee)
              clear HFIN HLN t9
              go_wp2
              go_roundw
              case rel => exact ⟨k + 1, by omega, by go_num, HF2.out⟩
              case measure => (simp [intOf]; omega)
            · have hd5 : rm ≤ L.length := by omega
              obtain ⟨ring2, ports2, fr2, hqa2, _⟩ := H2.out.1.qa
              have HP := aside' (Put_full W2 q rm ring2 ports2 fr2 L.length hqa2.box hd5 pp (some ⟨g, 0, none⟩) xs.length kt)
              clear hqa2
              go_wp2_with fail
              refine Calls.mono HP.out ?_
              rintro e W3 ⟨rfl, hb3⟩
              have hbx3 := (hb3.block x (Array.getElem?_eq_some_iff.1 H2.out.2.1).1).trans H2.out.2.1
              have htw3 := twin_blk H2.out.2.2 (hb3.block g (H2.out.1.au (v := .slice (some ⟨g, 0, none⟩) xs.length kt) (by simp) rfl).2.1)
              have hq3 := H2.out.1.later hb3
              have HP2 := aside' (RPut_full hq3.rf hd5 pp Bd xs.length dd)
              have H3 := aside' (And.intro hq3 (And.intro hbx3 htw3))
              clear hq3 hbx3 htw3 hb3 HP H2 y1 y2
              have y1 : W3.cell? ⟨x, 1, none⟩ = some (.int .i64 pp) := cellOf H3.out.2.1 1
              have y2 : W3.cell? ⟨x, 2, none⟩ = some (.slice Bd xs.length dd) := cellOf H3.out.2.1 2
              go_wp2_with fail
              refine Calls.mono HP2.out ?_
              rintro e W4 ⟨rfl, hb4⟩
              have hbx4 := (hb4.block x (Array.getElem?_eq_some_iff.1 H3.out.2.1).1).trans H3.out.2.1
              have htw4 := twin_blk H3.out.2.2 (hb4.block g (H3.out.1.au (v := .slice (some ⟨g, 0, none⟩) xs.length kt) (by simp) rfl).2.1)
              have hq4 := H3.out.1.later hb4
              clear hb4 HP2 H3 y1 y2
              have y1 : W4.cell? ⟨x, 1, none⟩ = some (.int .i64 pp) := cellOf hbx4 1
              have y2 : W4.cell? ⟨x, 2, none⟩ = some (.slice Bd xs.length dd) := cellOf hbx4 2
              clear hbx4
              have HLF := aside' (left_any g kt xs.length dd Bd xs W4 htw4 (HXW.out _ hq4.bl))
              have HQ4 := aside' hq4
              clear htw4 hq4
              go_wp2_with fail
              refine Calls.mono HLF.out ?_
              rintro e W5 ⟨rfl, q5, rfl⟩
              have hq5 := HQ4.out.later (below_drewN (Below.refl _ _) q5)
              have HKP := aside' (hq5.keep (by omega))
              have HQ5 := aside' hq5
              clear hq5 HQ4 HLF
              generalize W4.drewN q5 = W5 at *
              go_wp2_with fail
              refine Calls.mono HKP.out ?_
              rintro e W6 ⟨⟨u6, rfl⟩, row6, ps6, F6, ns6, hp6, hq6, _⟩
              have HT : Aside (HdQ w q rm (k + 1) W6) := aside' ⟨_, _, row6, ps6, F6, ns6, _, by omega, hq6.drop, HLN0.out⟩
              clear hq6 HKP HQ5 hp6
              obtain ⟨L9, Vs9, row9, ps9, F9, ns9, row29, hps9, hqi9, hln9⟩ := HT.out
              obtain ⟨ring9, ports9, fr9, hqa9, _⟩ := hqi9.qa
              have HLN := aside' (fun (e : Nat) => Len_ok (W6.drewN e) q rm ring9 ports9 fr9 L9.length (hqa9.box.below (below_drewN (Below.refl _ _) e)))
              obtain ⟨A9, c9, rfl, _⟩ := hqi9.rf.form
              have t9 := cellOf hqi9.rf.hb 1
              simp only [List.getElem?_toArray, List.getElem?_cons_zero, List.getElem?_cons_succ] at t9
              have HFIN := aside' (fun (e : Nat) => show HdQ w q rm (k + 1) (W6.drewN e) from ⟨L9, Vs9, row9, ps9, F9, ns9, _, hps9, hqi9.later (below_drewN (Below.refl _ _) e), hln9⟩)
              have e9 : ((L9.length : Int) != (L9.length : Int)) = false := by simp
              generalize L9.length = n9 at *
              clear hqi9 hln9 hqa9 HT hps9
              go_wp2_with fail
              refine region_class (fun V => ∃ e, V = W6.drewN e) (by kernel_rfl) (by kernel_rfl) ⟨1, rfl⟩ ?_
              repeat
                (first
                  | go_big_quiet_skip
                  | (go_big_quiet_want; first
                      | (go_big_quiet_op; go_big_quiet_on)
                      | (unfold Oper.quiet; apply Exists.intro; refine ⟨fun V hV => ?_, ?_⟩
                         · obtain ⟨ee, rfl⟩ := hV
                           have d9 : (W6.drewN ee).cell? ⟨q + 1, 1, none⟩ = some (.slice A9 n9 c9) := t9
                           go_simp
                           first
                             | with_reducible rfl
                             | (go_at_call 9; refine Calls.mono (HLN.out ee) ?_; rintro e w5 ⟨he5, hw5⟩; exact ⟨he5, ee, hw5⟩)
                         go_simp
                         go_big_quiet_on)))
              refine wpQuiet_nil ?_
              rintro V9 ⟨ee, rfl⟩
              have HF2 := aside' (HFIN.out ee)
              clear HFIN HLN t9
              go_wp2
              go_roundw
              case rel => exact ⟨k + 1, by omega, by go_num, HF2.out⟩
              case measure => (simp [intOf]; omega)
          | false =>
            by_cases hneg : sd < 0
            · obtain ⟨ring2, ports2, fr2, hqa2, _⟩ := HW.out.1.qa
              have HS1 := aside' (Send_neg W1 q rm ring2 ports2 fr2 L.length hqa2.box sd hneg)
              have HS2 := aside' (RSend_neg HW.out.1.rf sd hneg)
              have HSM := aside' (show Calls Tryz.prog 15 #[.slice none 0 0, .slice none 0 0] W1 _ from same_ok (w := w) (base := 0) (q := q) (A := none) (L := []) (Vs := []) (c := 0) ⟨fun h => by simp at h, fun g h => by cases h⟩ ⟨[], rfl, ⟨w.heap.size, World.ownsRow_nil _ _ _ _, Nat.le_refl _⟩, fun j hj => by simp at hj⟩ HW.out.1.bl (by simp))
              clear hqa2
              go_wp2_with fail
              refine Calls.mono HS1.out ?_
              rintro e W2 ⟨rfl, hw⟩
              have hw := hw
              subst hw
              go_wp2_with fail
              refine Calls.mono HS2.out ?_
              rintro e W3 ⟨rfl, hw⟩
              have hw := hw
              subst hw
              go_wp2_with fail
              refine Calls.mono HSM.out ?_
              rintro e W4 ⟨rfl, q5, rfl⟩
              have HT0 := aside' (show HdQ w q rm (k + 1) (W3.drewN q5) from ⟨L, Vs, row, ps, F, ns, row2, by omega, (HW.out.1.later (below_drewN (Below.refl _ _) q5)).drop, HLN0.out⟩)
              clear HS1 HS2 HSM y0 y1 y2 y3 HW
              generalize W3.drewN q5 = W5 at *
              go_wp2_with fail
              go_loopw [20] (fun i ws => i = .int .i64 0 ∧ Aside (HdQ w q rm (k + 1) ws)) (fun _ _ => 0)
              case atStart => exact ⟨rfl, HT0.out⟩
              case round =>
                obtain ⟨rfl, HT⟩ := hrel
                obtain ⟨L9, Vs9, row9, ps9, F9, ns9, row29, hps9, hqi9, hln9⟩ := HT.out
                obtain ⟨ring9, ports9, fr9, hqa9, _⟩ := hqi9.qa
                have HLN := aside' (fun (e : Nat) => Len_ok (wr.drewN e) q rm ring9 ports9 fr9 L9.length (hqa9.box.below (below_drewN (Below.refl _ _) e)))
                obtain ⟨A9, c9, rfl, _⟩ := hqi9.rf.form
                have t9 := cellOf hqi9.rf.hb 1
                simp only [List.getElem?_toArray, List.getElem?_cons_zero, List.getElem?_cons_succ] at t9
                have HFIN := aside' (fun (e : Nat) => show HdQ w q rm (k + 1) (wr.drewN e) from ⟨L9, Vs9, row9, ps9, F9, ns9, _, hps9, hqi9.later (below_drewN (Below.refl _ _) e), hln9⟩)
                have e9 : ((L9.length : Int) != (L9.length : Int)) = false := by simp
                generalize L9.length = n9 at *
                clear hqi9 hln9 hqa9 HT hps9
                go_wp2_with fail
                refine region_class (fun V => ∃ e, V = wr.drewN e) (by kernel_rfl) (by kernel_rfl) ⟨1, rfl⟩ ?_
                repeat
                  (first
                    | go_big_quiet_skip
                    | (go_big_quiet_want; first
                        | (go_big_quiet_op; go_big_quiet_on)
                        | (unfold Oper.quiet; apply Exists.intro; refine ⟨fun V hV => ?_, ?_⟩
                           · obtain ⟨ee, rfl⟩ := hV
                             have d9 : (wr.drewN ee).cell? ⟨q + 1, 1, none⟩ = some (.slice A9 n9 c9) := t9
                             go_simp
                             first
                               | with_reducible rfl
                               | (go_at_call 9; refine Calls.mono (HLN.out ee) ?_; rintro e w5 ⟨he5, hw5⟩; exact ⟨he5, ee, hw5⟩)
                           go_simp
                           go_big_quiet_on)))
                refine wpQuiet_nil ?_
                rintro V9 ⟨ee, rfl⟩
                have HF2 := aside' (HFIN.out ee)
                clear HFIN HLN t9
                go_wp2
                go_roundw
                case rel => exact ⟨k + 1, by omega, by go_num, HF2.out⟩
                case measure => (simp [intOf]; omega)
            · obtain ⟨sx, rfl⟩ : ∃ sx : Nat, sd = (sx : Int) := ⟨sd.toNat, by omega⟩
              have hVL : Vs.length = L.length := by
                obtain ⟨ring2, ports2, fr2, _, e2⟩ := HW.out.1.qa
                rw [← e2, ringL_length]
              have hL64 : L.length ≤ 64 := by
                obtain ⟨ring2, ports2, fr2, e1, _⟩ := HW.out.1.qa
                exact Nat.le_trans e1.hL e1.hroom
              have HS1 := aside' (HW.out.1.qSend sx (by omega) HLN0.out)
              obtain ⟨t, ht⟩ : ∃ t, t = min sx L.length := ⟨_, rfl⟩
              have htl : (L.take sx).length = t := by rw [List.length_take]; exact ht.symm
              rw [← ht] at HS1
              have HTT := aside' (And.intro ht (And.intro htl hVL))
              clear ht htl hVL
              go_wp2_with fail
              refine Calls.mono HS1.out ?_
              rintro e W2 ⟨A5, rfl, hcp, hq2, hf2⟩
              obtain ⟨ht, htl, hVL⟩ := HTT.out
              have hbW := HW.out.1.bW
              have hxq : q + 2 ≤ x := (HW.out.1.ae (o := some x) (by simp) rfl).1
              have hbx2 := hf2.blk HW.out.2 (by omega)
              have hcq : ∀ g, A5 = some ⟨g, 0, none⟩ → 0 < t → W1.heap.size ≤ g := fun g hA h0 => by
                obtain ⟨g', a1, a2, _⟩ := hcp.ad (by omega)
                rw [hA] at a1
                injection a1 with a1
                injection a1 with a1
                omega
              have hvq : ∀ j, j < L.length → ∀ k', (Vs.getD j (.slice none 0 0)).ownBlock = some k' → q + 2 ≤ k' := fun j hj k' hk' => by
                have hj' : j < Vs.length := by omega
                rw [List.getD_eq_getElem?_getD, List.getElem?_eq_getElem hj'] at hk'
                exact (HW.out.1.av (List.getElem_mem hj') hk').1
              have HS2 := aside' (hq2.rSend hL64 sx (by omega))
              have H2 := aside' (And.intro hcp (And.intro hbx2 (And.intro hcq hvq)))
              clear HS1 hcp hq2 hf2 hbx2 hcq hvq y0 y1 y2 y3 HW ht htl hVL
              have y3 : W2.cell? ⟨x, 3, none⟩ = some (.int .i64 (sx : Int)) := cellOf H2.out.2.1 3
              go_wp2_with fail
              refine Calls.mono HS2.out ?_
              rintro e W3 ⟨A6, n6, c6, rfl, hout, ⟨row3, hq3⟩, hf3⟩
              obtain ⟨ht, htl, hVL⟩ := HTT.out
              have hcp3 : CpsAt W1.heap.size W3 q A5 (L.take sx) Vs := by
                by_cases h0 : 0 < t
                · exact H2.out.1.foot hf3 (fun g hA e => by have := H2.out.2.2.1 g hA h0; omega) (fun j hj k' hk' e => by have := H2.out.2.2.2 j (by omega) k' hk'; omega)
                · exact ⟨fun h => by omega, fun g hA j hj => by omega⟩
              have HSM := aside' (same_ok (c := t) hcp3 hout hq3.bl (by omega))
              rw [htl] at HSM
              have H3 := aside' (And.intro hcp3 hq3)
              clear hcp3 hout hq3 hf3 HS2 H2 y3 ht htl hVL
              go_wp2_with fail
              refine Calls.mono HSM.out ?_
              rintro e W4 ⟨rfl, q5, rfl⟩
              obtain ⟨ht, htl, hVL⟩ := HTT.out
              have HI2 : Aside (∃ row' ps' F' ns', ps'.length ≤ k * 65 + 0 ∧ QI w (W3.drewN q5) q rm (L.drop sx) (L.drop sx) (Vs.drop sx) (((Vs.take sx).map clipV).drop 0) (oB A5 t :: [some x]) row' ps' F' ns' row3 ∧ ∀ j, j < t → ∃ g, A5 = some ⟨g, 0, none⟩ ∧ (W3.drewN q5).cell? ⟨g, j * 2 + 1, none⟩ = some (clipV (Vs.getD j (.slice none 0 0)))) := by
                refine aside' ⟨row, ps, F, ns, by omega, H3.out.2.later (below_drewN (Below.refl _ _) q5), fun j hj => ?_⟩
                obtain ⟨g, a1, _⟩ := H3.out.1.ad (by omega)
                obtain ⟨_, v, b1, A7, c7, b2, b3, _⟩ := H3.out.1.at_ g a1 j (by omega)
                refine ⟨g, a1, ?_⟩
                rw [b2, Nat.mul_comm]
                exact b1.trans (by rw [b3]; rfl)
              have hul : ((Vs.take sx).map clipV).length = t := by rw [List.length_map, List.length_take, hVL]; exact ht.symm
              have ht64 : t ≤ 64 := by omega
              have hug : ∀ j, j < t → ((Vs.take sx).map clipV)[j]? = some (clipV (Vs.getD j (.slice none 0 0))) := fun j hj => by
                rw [List.getElem?_map, List.getElem?_take_of_lt (by omega), List.getD_eq_getElem?_getD, List.getElem?_eq_getElem (show j < Vs.length by omega)]
                rfl
              have HU := aside' (And.intro hul hug)
              have hlnd : ∀ j, j < (L.drop sx).length → ((L.drop sx).getD j zCp).2.length ≤ 140737488351232 := fun j hj => by
                rw [getD_drop]
                rw [List.length_drop] at hj
                exact HLN0.out (sx + j) (by omega)
              have HLD := aside' hlnd
              clear H3 HSM hul hug hlnd ht htl hVL HLN0 HTT
              generalize (Vs.take sx).map clipV = us at *
              generalize W3.drewN q5 = W5 at *
              go_wp2_with fail
              go_loopw [20] (fun i ws => ∃ j : Nat, j ≤ t ∧ i = .int .i64 j ∧ Aside (∃ row' ps' F' ns', ps'.length ≤ k * 65 + j ∧ QI w ws q rm (L.drop sx) (L.drop sx) (Vs.drop sx) (us.drop j) (oB A5 t :: [some x]) row' ps' F' ns' row3 ∧ ∀ j, j < t → ∃ g, A5 = some ⟨g, 0, none⟩ ∧ ws.cell? ⟨g, j * 2 + 1, none⟩ = some (clipV (Vs.getD j (.slice none 0 0))))) (fun i _ => t - (intOf i).toNat)
              case atStart => exact ⟨0, Nat.zero_le _, rfl, HI2.out⟩
              case round =>
                obtain ⟨j, hj, rfl, HJ⟩ := hrel
                obtain ⟨row', ps', F', ns', hp', hqj, hcell⟩ := HJ.out
                clear HJ HI2
                by_cases hjt : j < t
                · have g6 : decide ((j : Int) < (t : Int)) = true := decide_eq_true (by omega)
                  obtain ⟨g, hA5, hcg⟩ := hcell j hjt
                  have hdr : us.drop j = clipV (Vs.getD j (.slice none 0 0)) :: us.drop (j + 1) := by
                    have h1 := HU.out.2 j hjt
                    rw [List.getElem?_eq_some_iff] at h1
                    obtain ⟨h1, h2⟩ := h1
                    rw [List.drop_eq_getElem_cons h1, h2]
                  rw [hdr] at hqj
                  obtain ⟨Au, nu, cu, xu, hu, _, _⟩ := hqj.uf _ (List.mem_cons_self)
                  rw [hu] at hqj hcg
                  have hob : oB A5 t = some g := by
                    unfold oB
                    rw [if_pos (by omega), hA5]
                    rfl
                  have hgz := (hqj.ae (o := oB A5 t) (by simp) hob)
                  have HKP := aside' (hqj.keep (by omega))
                  have HC := aside' (And.intro hcell hgz)
                  subst hA5
                  have j0 : (0 : Int) ≤ (j : Int) := by omega
                  have j1 : (j : Int) < (t : Int) := by omega
                  clear hcell hqj hdr hu hob hgz
                  go_wp2_with fail
                  refine Calls.mono HKP.out ?_
                  rintro e W6 ⟨⟨u6, rfl⟩, row6, ps6, F6, ns6, hp6, hq6, hf6⟩
                  have HN6 : Aside (∃ row' ps' F' ns', ps'.length ≤ k * 65 + (j + 1) ∧ QI w W6 q rm (L.drop sx) (L.drop sx) (Vs.drop sx) (us.drop (j + 1)) (oB (some ⟨g, 0, none⟩) t :: [some x]) row' ps' F' ns' row3 ∧ ∀ j, j < t → ∃ g', some (⟨g, 0, none⟩ : Addr) = some ⟨g', 0, none⟩ ∧ W6.cell? ⟨g', j * 2 + 1, none⟩ = some (clipV (Vs.getD j (.slice none 0 0)))) := by
                    refine aside' ⟨row6, ps6, F6, ns6, by omega, hq6, fun i hi => ?_⟩
                    obtain ⟨g', a1, a2⟩ := HC.out.1 i hi
                    refine ⟨g', a1, hf6.cell a2 ?_⟩
                    injection a1 with a1
                    injection a1 with a1
                    subst a1
                    exact HC.out.2.2.2
                  clear hq6 hf6 hp6 HC HKP hcg
                  go_wp2
                  go_roundw
                  case rel => exact ⟨j + 1, by omega, by go_num, HN6.out⟩
                  case measure => (simp [intOf]; omega)
                · obtain rfl : j = t := by omega
                  have g6 : decide ((j : Int) < (j : Int)) = false := decide_eq_false (by omega)
                  have hd0 : us.drop j = [] := List.drop_eq_nil_of_le (by rw [HU.out.1]; exact Nat.le_refl _)
                  rw [hd0] at hqj
                  have HT : Aside (HdQ w q rm (k + 1) wr) := aside' ⟨L.drop sx, Vs.drop sx, row', ps', F', ns', row3, by omega, hqj.drop, HLD.out⟩
                  clear hqj hcell hd0 hp'
                  obtain ⟨L9, Vs9, row9, ps9, F9, ns9, row29, hps9, hqi9, hln9⟩ := HT.out
                  obtain ⟨ring9, ports9, fr9, hqa9, _⟩ := hqi9.qa
                  have HLN := aside' (fun (e : Nat) => Len_ok (wr.drewN e) q rm ring9 ports9 fr9 L9.length (hqa9.box.below (below_drewN (Below.refl _ _) e)))
                  obtain ⟨A9, c9, rfl, _⟩ := hqi9.rf.form
                  have t9 := cellOf hqi9.rf.hb 1
                  simp only [List.getElem?_toArray, List.getElem?_cons_zero, List.getElem?_cons_succ] at t9
                  have HFIN := aside' (fun (e : Nat) => show HdQ w q rm (k + 1) (wr.drewN e) from ⟨L9, Vs9, row9, ps9, F9, ns9, _, hps9, hqi9.later (below_drewN (Below.refl _ _) e), hln9⟩)
                  have e9 : ((L9.length : Int) != (L9.length : Int)) = false := by simp
                  generalize L9.length = n9 at *
                  clear hqi9 hln9 hqa9 HT hps9
                  go_wp2_with fail
                  refine region_class (fun V => ∃ e, V = wr.drewN e) (by kernel_rfl) (by kernel_rfl) ⟨1, rfl⟩ ?_
                  repeat
                    (first
                      | go_big_quiet_skip
                      | (go_big_quiet_want; first
                          | (go_big_quiet_op; go_big_quiet_on)
                          | (unfold Oper.quiet; apply Exists.intro; refine ⟨fun V hV => ?_, ?_⟩
                             · obtain ⟨ee, rfl⟩ := hV
                               have d9 : (wr.drewN ee).cell? ⟨q + 1, 1, none⟩ = some (.slice A9 n9 c9) := t9
                               go_simp
                               first
                                 | with_reducible rfl
                                 | (go_at_call 9; refine Calls.mono (HLN.out ee) ?_; rintro e w5 ⟨he5, hw5⟩; exact ⟨he5, ee, hw5⟩)
                             go_simp
                             go_big_quiet_on)))
                  refine wpQuiet_nil ?_
                  rintro V9 ⟨ee, rfl⟩
                  have HF2 := aside' (HFIN.out ee)
                  clear HFIN HLN t9
                  go_wp2
                  go_roundw
                  case rel => exact ⟨k + 1, by omega, by go_num, HF2.out⟩
                  case measure => (simp [intOf]; omega)
        · obtain rfl : k = n := by omega
          have g3 : decide ((k : Int) < (k : Int)) = false := decide_eq_false (by omega)
          have HA := aside' (HQI.out.1.apart (by omega))
          go_wp2_with fail
          refine Calls.mono HA.out ?_
          rintro e v1 ⟨rfl, hb1⟩
          have HL2 := aside' (lives_any v1)
          have HB1 := aside' hb1
          clear hb1 HA HQI
          go_wp2_with fail
          refine Calls.mono HL2.out ?_
          rintro e v2 ⟨rfl, hb2⟩
          have HB2 := aside' (HB1.out.trans (hb2.mono HB1.out.size))
          clear hb2
          go_wp2
          go_ret
          exact ⟨rfl, HB2.out⟩
end Go.Proofs.YtdgilloblfbklabGreatDoor.Own
