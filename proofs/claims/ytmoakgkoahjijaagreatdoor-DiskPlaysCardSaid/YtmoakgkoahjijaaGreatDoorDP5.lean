/-
  The walk of the law DiskPlays.
-/
import Derived.Test.YtmoakgkoahjijaaGreatDoorDP4
import Derived.Test.YtmoakgkoahjijaaGreatDoorSame
import Derived.Deep.DeepCutAuto
import Derived.BigRegion
import Derived.Deep.CutBlock
import Derived.Test.YtmoakgkoahjijaaGreatDoorFloatTail
set_option linter.unusedVariables false
set_option linter.unusedSimpArgs false
namespace Go.Proofs.YtmoakgkoahjijaaGreatDoor
open Go.RowKit SumsMath

section
variable {P : Program} {ops : Array Oper} {Q : Exit → Act → World → Prop} {S : World → Prop} {K : Act → World → Prop} {i : Nat} {l : List Pl} {a : Act} {w : World} {o : Oper}
theorem Pl.wp_float_g (ho : ops[i]? = some o) (hw : Region.wanted o (yielded ops a.tmps) = true) (v : Value) (hv : ∀ U, S U → (execOp a.eval o).run P U = .ok (.value v) U)
    (hQ : ∀ c a w, Q (.panic c) (a.put o.dst v) w → Q (.panic c) a w) (h : Pl.wp P ops Q S K l (a.put o.dst v) w) : Pl.wp P ops Q S K (.float i :: l) a w := by
  simp only [Pl.wp, ho]
  exact ⟨v, .inl ⟨hw, hv⟩, hQ, h⟩
theorem Pl.wp_one_g (ho : ops[i]? = some o) (hw : Region.wanted o (yielded ops a.tmps) = true) (h : Oper.wp P o a w (fun a' w' => S w' ∧ Pl.wp P ops Q S K l a' w') Q) : Pl.wp P ops Q S K (.one i :: l) a w := by
  simp only [Pl.wp, ho]
  rw [if_pos hw]
  exact h
end
theorem Pl.nil {P : Program} {ops : Array Oper} {Q : Exit → Act → World → Prop} {S : World → Prop} {K : Act → World → Prop} {a : Act} {w : World} (h : K a w) : Pl.wp P ops Q S K [] a w := h
/-- The head of a round. -/
def Hd (w : World) (z b : Nat) (d r : Option Addr) (room : Int) (k : Nat) (W : World) : Prop := ∃ S row ps F ns, ps.length ≤ k ∧ MI w W z b d r room S S row ps F ns (fun _ => False)
set_option maxRecDepth 100000 in
set_option maxHeartbeats 6400000 in
theorem plays_law (room : Int) (hroom : -9223372036854775808 ≤ room ∧ room ≤ 9223372036854775807) (A : Option Addr) (n c : Nat) (os : List (Int × Int × List Int)) (w : World) (hR : ReadsOps w A n os) (hby : ∀ j, j < os.length → Bytes (os.getD j zO).2.2) (hk : ∀ j, j < os.length → 0 ≤ (os.getD j zO).1 ∧ (os.getD j zO).1 ≤ 255) (hn : n ≤ 140737488355328) :
    Calls Tryz.prog 5 #[.int .i64 room, .slice A n c] w fun e w' => e = .returned (.bool true) ∧ Below w.heap.size w w' := by
  have hl := hR.1
  have HR := aside' (And.intro hR (And.intro hby (And.intro hl hk)))
  clear hR hby hl hk
  by_cases h200 : 500 < n
  · have g1 : decide (500 < (n : Int)) = true := decide_eq_true (by omega)
    go_enter Tryz.func5, Tryz.ntmps5
    go_wp2
    go_ret
    exact ⟨rfl, Below.refl _ _⟩
  · have g1 : decide (500 < (n : Int)) = false := decide_eq_false (by omega)
    have HSZ := aside' (size_any A n c os w HR.out.1 hn)
    go_enter Tryz.func5, Tryz.ntmps5
    go_wp2_with fail
    refine Calls.mono HSZ.out ?_
    rintro e w1 ⟨T, rfl, hT, hTj, hw1⟩
    have hw1 := hw1.symm
    subst hw1
    have HTJ := aside' hTj
    clear HSZ hTj
    by_cases hT1 : 200000 < T
    · have g2 : decide (200000 < (T : Int)) = true := decide_eq_true (by omega)
      go_wp2
      go_ret
      exact ⟨rfl, Below.refl _ _⟩
    · have g2 : decide (200000 < (T : Int)) = false := decide_eq_false (by omega)
      have HN1 := aside' (New_any room w)
      go_wp2_with fail
      refine Calls.mono HN1.out ?_
      rintro e w1 ⟨d, rfl, hd⟩
      have HD := aside' hd
      have HN2 := aside' (RNew_any room w1)
      clear hd HN1
      go_wp2_with fail
      refine Calls.mono HN2.out ?_
      rintro e w2 ⟨r, rfl, hr⟩
      have hp := PD.start HD.out hr
      have HST := aside' (MI.start hp.1 hp.2.1)
      have hdr := hp.2.2
      have e1 : (E0 room != E0 room) = false := by simp
      generalize E0 room = E at *
      generalize S0 room = S00 at *
      clear hr HN2 HD hp
      have HBO : Aside (((w2.alloc (.cells zeroCells 94)).alloc (.cells (bookCells 0 (.slice none 0 0)) 61)).heap[w2.heap.size + 1]? = some (.cells (bookCells 0 (.slice none 0 0)) 61)) := aside' (by have h := heap_alloc_new (w2.alloc (.cells zeroCells 94)) (.cells (bookCells 0 (.slice none 0 0)) 61); rwa [World.size_alloc] at h)
      have neq1 : ∀ W : World, (binOp .eql 87 (.pointer d) (.pointer none)).run Tryz.prog W = .ok (.bool d.isNone) W := by rcases hdr with ⟨rfl, rfl⟩ | ⟨a, a', rfl, rfl⟩ <;> (intro W; kernel_rfl)
      have neq2 : ∀ W : World, (binOp .eql 90 (.pointer r) (.pointer none)).run Tryz.prog W = .ok (.bool d.isNone) W := by rcases hdr with ⟨rfl, rfl⟩ | ⟨a, a', rfl, rfl⟩ <;> (intro W; kernel_rfl)
      have b0 : (d.isNone != d.isNone) = false := by simp
      generalize d.isNone = dn at *
      go_wp2_with ((with_reducible show wpList _ _ _ _ _ _); refine wpList_store_row rfl 61 (.tmp 11) (.tmp 47) rfl (w2.heap.size + 1) (bookCells 0 (.slice none 0 0)) rfl rfl 61 (bookCells 0 (.slice none 0 0)) HBO.out (by kernel_rfl) rfl (by kernel_rfl) ?_; refine wpList_seen ?_; intro V hV; have HV := aside' hV; clear hV)
      have HMI0 := aside' (show MI w V w2.heap.size (w2.heap.size + 1) d r room S00 S00 (.slice none 0 0) [] (fun _ _ => False) (fun _ => 0) (fun _ => False) from by rw [HV.out]; exact HST.out)
      have HH := aside' (show Hd w w2.heap.size (w2.heap.size + 1) d r room 0 V from ⟨_, _, _, _, _, Nat.le_refl _, HMI0.out⟩)
      clear HMI0 HV HST HBO neq1 neq2 b0 e1 hdr
      generalize w2.heap.size + 1 = b at *
      generalize w2.heap.size = z at *
      go_loopw [12] (fun i wr => ∃ k : Nat, k ≤ n ∧ i = .int .i64 k ∧ Aside (Hd w z b d r room k wr)) (fun i _ => n - (intOf i).toNat)
      case atStart => exact ⟨0, Nat.zero_le _, rfl, HH.out⟩
      case round =>
        obtain ⟨k, hk, rfl, HI⟩ := hrel
        obtain ⟨S, row, ps, F, ns, hps, hmi⟩ := HI.out
        have HMI := aside' hmi
        clear hmi HI HH
        by_cases hlt : k < n
        · have g3 : decide ((k : Int) < (n : Int)) = true := decide_eq_true (by omega)
          obtain ⟨xb, xo, rfl, hxb, hxs⟩ := HR.out.1.2.2 (by omega)
          obtain ⟨B, dd, hc0, hc1, hc2, hd1, hd2, hrx⟩ := hxs k hlt
          have hb := HMI.out.bl
          have hx0 := (hb.cell (p := ⟨xb, xo + k * 3, none⟩) hxb).trans hc0
          have hx1 := (hb.cell (p := ⟨xb, xo + k * 3 + 1, none⟩) hxb).trans hc1
          have hx2 := (hb.cell (p := ⟨xb, xo + k * 3 + 2, none⟩) hxb).trans hc2
          have HBX := aside' (HR.out.2.1 k (by rw [HR.out.2.2.1]; exact hlt))
          have hkd := HR.out.2.2.2 k (by rw [HR.out.2.2.1]; exact hlt)
          have hxl := HTJ.out (by omega) k hlt
          have HX0 := aside' hrx
          generalize (os.getD k zO).2.2 = x at *
          generalize (os.getD k zO).2.1 = N at *
          generalize (os.getD k zO).1 = kd at *
          have i0 : (0 : Int) ≤ (k : Int) := by omega
          have i1 : (k : Int) < (n : Int) := by omega
          clear hxs hc0 hc1 hc2 hb hrx
          go_upto_region 14 with fail
          have ha : Below wr.heap.size wr (wr.alloc (.cells #[.int .u8 kd, .int .i64 N, .slice B x.length dd] 96)) := (Below.refl _ _).alloc (Nat.le_refl _) _
          have hq := heap_alloc_new wr (.cells #[.int .u8 kd, .int .i64 N, .slice B x.length dd] 96)
          have hbW := HMI.out.bl.trans (ha.mono HMI.out.bl.size)
          have HTW := aside' (twin_any B x.length dd x _ (HX0.out.below hbW) (by omega))
          have c2 : (wr.alloc (.cells #[.int .u8 kd, .int .i64 N, .slice B x.length dd] 96)).cell? ⟨wr.heap.size, 2, none⟩ = some (.slice B x.length dd) := cellOf hq 2
          have HQ := aside' (And.intro hq ha)
          clear hx0 hx1 hx2 hq ha hbW
          generalize wr.alloc (.cells #[.int .u8 kd, .int .i64 N, .slice B x.length dd] 96) = W1 at *
          go_upto_region 15 with fail
          refine Calls.mono HTW.out ?_
          rintro e w3 ⟨g, kt, rfl, hg1, hg2, htw, hb3, hown⟩
          have HM : Aside (Mid w z b d r room row ps F ns wr.heap.size g kt (.cells #[.int .u8 kd, .int .i64 N, .slice B x.length dd] 96) x S S w3) := by
            have hsz := HQ.out.2.size
            have hq1 := (Array.getElem?_eq_some_iff.1 HQ.out.1).1
            have hmb := HMI.out.pd.bs
            have hb2 := HQ.out.2.trans (hb3.mono hsz)
            exact ⟨HMI.out.watch hb2 (fun q' hq' => by
              rcases hq' with rfl | rfl
              · exact .inr ⟨Nat.le_refl _, by have := hb3.size; omega⟩
              · exact .inr ⟨by omega, hg2⟩), (hb3.block _ hq1).trans HQ.out.1, htw, own_base' hown (by omega)⟩
          have hkt := htw.1
          have hkt2 := htw.2.2.2
          clear HTW hg1 hg2 htw hb3 hown HQ c2 HMI
          generalize wr.heap.size = q at *
          have k0 : w3.cell? ⟨q, 0, none⟩ = some (.int .u8 kd) := cellOf HM.out.bx 0
          have c1 : w3.cell? ⟨q, 1, none⟩ = some (.int .i64 N) := cellOf HM.out.bx 1
          have c2 : w3.cell? ⟨q, 2, none⟩ = some (.slice B x.length dd) := cellOf HM.out.bx 2
          go_upto_block 2 with fail
          go_cut [15] (fun s15 wc => s15 = .bool true ∧ ∃ S2, Aside (Mid w z b d r room row ps F ns q g kt (.cells #[.int .u8 kd, .int .i64 N, .slice B x.length dd] 96) x S2 S2 wc))
          case first =>
            by_cases k2 : kd = 2
            · subst k2
              go_wp2_with fail
              refine region_float (fun U => U.cell? ⟨q, 1, none⟩ = some (.int .i64 N)) 22 [.float 0, .float 1, .float 2, .float 4, .float 5, .float 6, .one 3, .one 7, .float 8, .float 9, .float 10, .float 11, .float 12, .one 13, .float 14, .float 15, .float 16, .float 17, .float 18, .float 19, .one 20, .float 21] (by kernel_rfl) (by kernel_rfl) (cellOf HM.out.bx 1) ?_
              have e1 : ((oTrim S N).1 == (oTrim S N).1) = true := by simp
              have hm0 := HM.out.later (Below.refl _ _).drew
              refine Pl.wp_float rfl rfl (.pointer d) (fun U hU => by kernel_rfl) (fun _ _ _ h => h) ?_
              (try go_simp)
              refine Pl.wp_float rfl rfl (.pointer (some ⟨q, 1, none⟩)) (fun U hU => by kernel_rfl) (fun _ _ _ h => h) ?_
              (try go_simp)
              refine Pl.wp_float rfl rfl (.int .i64 N) (fun U hU => by go_simp) (fun _ _ _ h => h) ?_
              (try go_simp)
              refine Pl.wp_float rfl rfl (.pointer r) (fun U hU => by kernel_rfl) (fun _ _ _ h => h) ?_
              (try go_simp)
              refine Pl.wp_float rfl rfl (.pointer (some ⟨q, 1, none⟩)) (fun U hU => by kernel_rfl) (fun _ _ _ h => h) ?_
              (try go_simp)
              refine Pl.wp_float rfl rfl (.int .i64 N) (fun U hU => by go_simp) (fun _ _ _ h => h) ?_
              (try go_simp)
              refine Pl.wp_one rfl rfl ?_
              go_simp
              refine Calls.mono (hm0.dTrim N) ?_
              rintro e wh4 ⟨rfl, h4⟩
              refine ⟨cellOf h4.bx 1, ?_⟩
              (try go_simp)
              refine Pl.wp_one rfl rfl ?_
              go_simp
              refine Calls.mono (h4.rTrim N) ?_
              rintro e wh5 ⟨rfl, h5⟩
              refine ⟨cellOf h5.bx 1, ?_⟩
              (try go_simp)
              refine Pl.wp_float rfl rfl (.bool true) (fun U hU => by go_simp) (fun _ _ _ h => h) ?_
              (try go_simp)
              refine Pl.wp_float rfl rfl (.bool true) (fun U hU => by go_simp) (fun _ _ _ h => h) ?_
              (try go_simp)
              refine Pl.wp_float_g rfl (by kernel_rfl) (.pointer (some ⟨z, 0, none⟩)) (fun U hU => by kernel_rfl) (fun _ _ _ h => h) ?_
              (try go_simp)
              refine Pl.wp_float_g rfl (by kernel_rfl) (.pointer (some ⟨q, 1, none⟩)) (fun U hU => by kernel_rfl) (fun _ _ _ h => h) ?_
              (try go_simp)
              refine Pl.wp_float_g rfl (by kernel_rfl) (.int .i64 N) (fun U hU => by go_simp) (fun _ _ _ h => h) ?_
              (try go_simp)
              refine Pl.wp_one_g rfl (by kernel_rfl) ?_
              go_simp
              refine Calls.mono (h5.zTrim N) ?_
              rintro e wh6 ⟨rfl, h6⟩
              refine ⟨cellOf h6.bx 1, ?_⟩
              (try go_simp)
              refine Pl.wp_float_g rfl (by kernel_rfl) (.bool true) (fun U hU => by go_simp) (fun _ _ _ h => h) ?_
              (try go_simp)
              refine Pl.wp_float rfl rfl (.bool true) (fun U hU => by go_simp) (fun _ _ _ h => h) ?_
              (try go_simp)
              refine Pl.wp_float rfl rfl (.bool true) (fun U hU => by go_simp) (fun _ _ _ h => h) ?_
              (try go_simp)
              refine Pl.wp_float_g rfl (by kernel_rfl) (.pointer none) (fun U hU => by kernel_rfl) (fun _ _ _ h => h) ?_
              (try go_simp)
              refine Pl.wp_float_g rfl (by kernel_rfl) (.pointer (some ⟨q, 1, none⟩)) (fun U hU => by kernel_rfl) (fun _ _ _ h => h) ?_
              (try go_simp)
              refine Pl.wp_float_g rfl (by kernel_rfl) (.int .i64 N) (fun U hU => by go_simp) (fun _ _ _ h => h) ?_
              (try go_simp)
              refine Pl.wp_one_g rfl (by kernel_rfl) ?_
              go_simp
              refine Calls.mono (h6.nTrim N) ?_
              rintro e wh7 ⟨rfl, h7⟩
              refine ⟨cellOf h7.bx 1, ?_⟩
              (try go_simp)
              refine Pl.wp_float_g rfl (by kernel_rfl) (.bool true) (fun U hU => by go_simp) (fun _ _ _ h => h) ?_
              (try go_simp)
              have HPF := aside' h7
              clear hm0 h4 h5 h6 h7
              refine Pl.nil ?_
              show wpList _ _ _ _ _ _
              go_wp2_with fail
              go_meet
              exact ⟨rfl, _, HPF.out⟩
            · have f2 : (kd == 2) = false := by rw [beq_eq_false_iff_ne]; exact k2
              by_cases k3 : kd = 3
              · subst k3
                go_wp2_with fail
                refine region_float (fun U => U.cell? ⟨q, 1, none⟩ = some (.int .i64 N)) 22 [.float 0, .float 1, .float 2, .float 4, .float 5, .float 6, .one 3, .one 7, .float 8, .float 9, .float 10, .float 11, .float 12, .one 13, .float 14, .float 15, .float 16, .float 17, .float 18, .float 19, .one 20, .float 21] (by kernel_rfl) (by kernel_rfl) (cellOf HM.out.bx 1) ?_
                have e1 : ((oFail S N).1 == (oFail S N).1) = true := by simp
                have hm0 := HM.out.later (Below.refl _ _).drew
                refine Pl.wp_float rfl rfl (.pointer d) (fun U hU => by kernel_rfl) (fun _ _ _ h => h) ?_
                (try go_simp)
                refine Pl.wp_float rfl rfl (.pointer (some ⟨q, 1, none⟩)) (fun U hU => by kernel_rfl) (fun _ _ _ h => h) ?_
                (try go_simp)
                refine Pl.wp_float rfl rfl (.int .i64 N) (fun U hU => by go_simp) (fun _ _ _ h => h) ?_
                (try go_simp)
                refine Pl.wp_float rfl rfl (.pointer r) (fun U hU => by kernel_rfl) (fun _ _ _ h => h) ?_
                (try go_simp)
                refine Pl.wp_float rfl rfl (.pointer (some ⟨q, 1, none⟩)) (fun U hU => by kernel_rfl) (fun _ _ _ h => h) ?_
                (try go_simp)
                refine Pl.wp_float rfl rfl (.int .i64 N) (fun U hU => by go_simp) (fun _ _ _ h => h) ?_
                (try go_simp)
                refine Pl.wp_one rfl rfl ?_
                go_simp
                refine Calls.mono (hm0.dFail N) ?_
                rintro e wh4 ⟨rfl, h4⟩
                refine ⟨cellOf h4.bx 1, ?_⟩
                (try go_simp)
                refine Pl.wp_one rfl rfl ?_
                go_simp
                refine Calls.mono (h4.rFail N) ?_
                rintro e wh5 ⟨rfl, h5⟩
                refine ⟨cellOf h5.bx 1, ?_⟩
                (try go_simp)
                refine Pl.wp_float rfl rfl (.bool true) (fun U hU => by go_simp) (fun _ _ _ h => h) ?_
                (try go_simp)
                refine Pl.wp_float rfl rfl (.bool true) (fun U hU => by go_simp) (fun _ _ _ h => h) ?_
                (try go_simp)
                refine Pl.wp_float_g rfl (by kernel_rfl) (.pointer (some ⟨z, 0, none⟩)) (fun U hU => by kernel_rfl) (fun _ _ _ h => h) ?_
                (try go_simp)
                refine Pl.wp_float_g rfl (by kernel_rfl) (.pointer (some ⟨q, 1, none⟩)) (fun U hU => by kernel_rfl) (fun _ _ _ h => h) ?_
                (try go_simp)
                refine Pl.wp_float_g rfl (by kernel_rfl) (.int .i64 N) (fun U hU => by go_simp) (fun _ _ _ h => h) ?_
                (try go_simp)
                refine Pl.wp_one_g rfl (by kernel_rfl) ?_
                go_simp
                refine Calls.mono (h5.zFail N) ?_
                rintro e wh6 ⟨rfl, h6⟩
                refine ⟨cellOf h6.bx 1, ?_⟩
                (try go_simp)
                refine Pl.wp_float_g rfl (by kernel_rfl) (.bool true) (fun U hU => by go_simp) (fun _ _ _ h => h) ?_
                (try go_simp)
                refine Pl.wp_float rfl rfl (.bool true) (fun U hU => by go_simp) (fun _ _ _ h => h) ?_
                (try go_simp)
                refine Pl.wp_float rfl rfl (.bool true) (fun U hU => by go_simp) (fun _ _ _ h => h) ?_
                (try go_simp)
                refine Pl.wp_float_g rfl (by kernel_rfl) (.pointer none) (fun U hU => by kernel_rfl) (fun _ _ _ h => h) ?_
                (try go_simp)
                refine Pl.wp_float_g rfl (by kernel_rfl) (.pointer (some ⟨q, 1, none⟩)) (fun U hU => by kernel_rfl) (fun _ _ _ h => h) ?_
                (try go_simp)
                refine Pl.wp_float_g rfl (by kernel_rfl) (.int .i64 N) (fun U hU => by go_simp) (fun _ _ _ h => h) ?_
                (try go_simp)
                refine Pl.wp_one_g rfl (by kernel_rfl) ?_
                go_simp
                refine Calls.mono (h6.nFail N) ?_
                rintro e wh7 ⟨rfl, h7⟩
                refine ⟨cellOf h7.bx 1, ?_⟩
                (try go_simp)
                refine Pl.wp_float_g rfl (by kernel_rfl) (.bool true) (fun U hU => by go_simp) (fun _ _ _ h => h) ?_
                (try go_simp)
                have HPF := aside' h7
                clear hm0 h4 h5 h6 h7
                refine Pl.nil ?_
                show wpList _ _ _ _ _ _
                go_wp2_with fail
                go_meet
                exact ⟨rfl, _, HPF.out⟩
              · have f3 : (kd == 3) = false := by rw [beq_eq_false_iff_ne]; exact k3
                by_cases k4 : kd = 4
                · subst k4
                  have e1 : ((oUp S).1 == (oUp S).1) = true := by simp
                  have HO0 := aside' (Mid.dUp HM.out)
                  go_wp2_with fail
                  refine Calls.mono HO0.out ?_
                  rintro e w4 ⟨rfl, h4⟩
                  have HO1 := aside' (Mid.rUp h4)
                  go_wp2_with fail
                  refine Calls.mono HO1.out ?_
                  rintro e w5 ⟨rfl, h5⟩
                  have HO2 := aside' (Mid.zUp h5)
                  go_wp2_with fail
                  refine Calls.mono HO2.out ?_
                  rintro e w6 ⟨rfl, h6⟩
                  have HO3 := aside' (Mid.nUp h6)
                  go_wp2_with fail
                  refine Calls.mono HO3.out ?_
                  rintro e w7 ⟨rfl, h7⟩
                  have HPF := aside' h7
                  clear h4 h5 h6 h7
                  go_wp2_with fail
                  go_meet
                  exact ⟨rfl, _, HPF.out⟩
                · have f4 : (kd == 4) = false := by rw [beq_eq_false_iff_ne]; exact k4
                  go_wp2_with fail
                  refine region_float (fun U => U.cell? ⟨q, 2, none⟩ = some (.slice B x.length dd)) 19 [.float 0, .float 1, .float 3, .float 4, .float 5, .one 2, .one 6, .float 7, .float 8, .float 9, .float 10, .one 11, .float 12, .float 13, .float 14, .float 15, .float 16, .one 17, .float 18] (by kernel_rfl) (by kernel_rfl) (cellOf HM.out.bx 2) ?_
                  have e1 : ((oApp room S x).1 == (oApp room S x).1) = true := by simp
                  have hm0 := HM.out.later (Below.refl _ _).drew
                  refine Pl.wp_float rfl rfl (.pointer d) (fun U hU => by kernel_rfl) (fun _ _ _ h => h) ?_
                  (try go_simp)
                  refine Pl.wp_float rfl rfl (.slice (some ⟨g, 0, none⟩) x.length kt) (fun U hU => by kernel_rfl) (fun _ _ _ h => h) ?_
                  (try go_simp)
                  refine Pl.wp_float rfl rfl (.pointer r) (fun U hU => by kernel_rfl) (fun _ _ _ h => h) ?_
                  (try go_simp)
                  refine Pl.wp_float rfl rfl (.pointer (some ⟨q, 2, none⟩)) (fun U hU => by kernel_rfl) (fun _ _ _ h => h) ?_
                  (try go_simp)
                  refine Pl.wp_float rfl rfl (.slice B x.length dd) (fun U hU => by go_simp) (fun _ _ _ h => h) ?_
                  (try go_simp)
                  refine Pl.wp_one rfl rfl ?_
                  go_simp
                  refine Calls.mono (hm0.dApp HBX.out hm0.tw.2.1 (by omega)) ?_
                  rintro e wh4 ⟨rfl, h4⟩
                  refine ⟨cellOf h4.bx 2, ?_⟩
                  (try go_simp)
                  refine Pl.wp_one rfl rfl ?_
                  go_simp
                  refine Calls.mono (h4.rApp HBX.out (HX0.out.below h4.mi.bl) hd1) ?_
                  rintro e wh5 ⟨rfl, h5⟩
                  refine ⟨cellOf h5.bx 2, ?_⟩
                  (try go_simp)
                  refine Pl.wp_float rfl rfl (.bool true) (fun U hU => by go_simp) (fun _ _ _ h => h) ?_
                  (try go_simp)
                  refine Pl.wp_float rfl rfl (.bool true) (fun U hU => by go_simp) (fun _ _ _ h => h) ?_
                  (try go_simp)
                  refine Pl.wp_float_g rfl (by kernel_rfl) (.pointer (some ⟨z, 0, none⟩)) (fun U hU => by kernel_rfl) (fun _ _ _ h => h) ?_
                  (try go_simp)
                  refine Pl.wp_float_g rfl (by kernel_rfl) (.slice (some ⟨g, 0, none⟩) x.length kt) (fun U hU => by kernel_rfl) (fun _ _ _ h => h) ?_
                  (try go_simp)
                  refine Pl.wp_one_g rfl (by kernel_rfl) ?_
                  go_simp
                  refine Calls.mono (h5.zApp) ?_
                  rintro e wh6 ⟨rfl, h6⟩
                  refine ⟨cellOf h6.bx 2, ?_⟩
                  (try go_simp)
                  refine Pl.wp_float_g rfl (by kernel_rfl) (.bool true) (fun U hU => by go_simp) (fun _ _ _ h => h) ?_
                  (try go_simp)
                  refine Pl.wp_float rfl rfl (.bool true) (fun U hU => by go_simp) (fun _ _ _ h => h) ?_
                  (try go_simp)
                  refine Pl.wp_float rfl rfl (.bool true) (fun U hU => by go_simp) (fun _ _ _ h => h) ?_
                  (try go_simp)
                  refine Pl.wp_float_g rfl (by kernel_rfl) (.pointer none) (fun U hU => by kernel_rfl) (fun _ _ _ h => h) ?_
                  (try go_simp)
                  refine Pl.wp_float_g rfl (by kernel_rfl) (.slice (some ⟨g, 0, none⟩) x.length kt) (fun U hU => by kernel_rfl) (fun _ _ _ h => h) ?_
                  (try go_simp)
                  refine Pl.wp_one_g rfl (by kernel_rfl) ?_
                  go_simp
                  refine Calls.mono (h6.nApp) ?_
                  rintro e wh7 ⟨rfl, h7⟩
                  refine ⟨cellOf h7.bx 2, ?_⟩
                  (try go_simp)
                  refine Pl.wp_float_g rfl (by kernel_rfl) (.bool true) (fun U hU => by go_simp) (fun _ _ _ h => h) ?_
                  (try go_simp)
                  have HPF := aside' h7
                  clear hm0 h4 h5 h6 h7
                  refine Pl.nil ?_
                  show wpList _ _ _ _ _ _
                  go_wp2_with fail
                  go_meet
                  exact ⟨rfl, _, HPF.out⟩
          case rest =>
            obtain ⟨rfl, S2, HPF⟩ := hcut
            have c2 : wc.cell? ⟨q, 2, none⟩ = some (.slice B x.length dd) := cellOf HPF.out.bx 2
            have HLF := aside' (left_any g kt x.length dd B x wc HPF.out.tw (HX0.out.below HPF.out.mi.bl))
            go_wp2_with fail
            refine Calls.mono HLF.out ?_
            rintro e w5 ⟨rfl, q5, rfl⟩
            have HP5 := aside' (HPF.out.later (below_drewN (Below.refl _ _) q5))
            have HDN := aside' HP5.out.mi.pd.dDown
            have HRN := aside' HP5.out.mi.pd.rDown
            have b1 : (oDown S2 != oDown S2) = false := by simp
            generalize oDown S2 = od at *
            go_wp2_with fail
            refine Calls.mono HDN.out ?_
            rintro e wa ⟨rfl, hwa⟩
            have hwa := hwa.symm
            subst hwa
            go_wp2_with fail
            refine Calls.mono HRN.out ?_
            rintro e wb ⟨rfl, hwb⟩
            have hwb := hwb.symm
            subst hwb
            have HIN := aside' (show MI w (wc.drewN q5) z b d r room S2 S2 row ps F ns (fun j => j = q ∨ j = g) ∧ ∃ zs : List Int, zs.length = x.length ∧ (wc.drewN q5).ownsRow w.heap.size 5 1 (.slice (some ⟨g, 0, none⟩) x.length kt) x.length (nums .u8 zs) from ⟨HP5.out.mi, x, rfl, HP5.out.ow⟩)
            clear HDN HRN HLF HPF HP5 b1 c2 HBX HX0 HM
            generalize x.length = xn at *
            go_wp2
            go_loopw [16] (fun j ws => ∃ m : Nat, m ≤ xn ∧ j = .int .i64 m ∧ Aside (MI w ws z b d r room S2 S2 row ps F ns (fun j => j = q ∨ j = g) ∧ ∃ zs : List Int, zs.length = xn ∧ ws.ownsRow w.heap.size 5 1 (.slice (some ⟨g, 0, none⟩) xn kt) xn (nums .u8 zs))) (fun j _ => xn - (intOf j).toNat)
            case atStart => exact ⟨0, Nat.zero_le _, rfl, HIN.out⟩
            case round =>
              obtain ⟨m, hm, rfl, HI2⟩ := hrel
              obtain ⟨hmi, zs, hzl, how⟩ := HI2.out
              clear HI2 HIN
              by_cases hlt2 : m < xn
              · have g4 : decide ((m : Int) < (xn : Int)) = true := decide_eq_true (by omega)
                have dg : wr.cell? ⟨g, m, none⟩ = some (.int .u8 (zs.getD m 0)) := own_at how m hlt2
                have fg : wr.frozen? ⟨g, m, none⟩ = false := how.frozenAt m
                have j0 : (0 : Int) ≤ (m : Int) := by omega
                have j1 : (m : Int) < (xn : Int) := by omega
                have HNX := aside' (And.intro (hmi.put ((Foot.refl (fun j => j = q ∨ j = g) wr).setCell (p := ⟨g, m, none⟩) (.inl (.inr rfl)) (.int .u8 238))) (And.intro (own_put how m 238) hzl))
                generalize zs.getD m 0 = y at *
                clear hmi how hzl
                go_wp2
                go_roundw
                case rel => exact ⟨m + 1, by omega, by go_num, HNX.out.1, zs.set m 238, by rw [List.length_set]; exact HNX.out.2.2, HNX.out.2.1⟩
                case measure => (simp [intOf]; omega)
              · obtain rfl : m = xn := by omega
                have g4 : decide ((m : Int) < (m : Int)) = false := decide_eq_false (by omega)
                have HE := aside' (hmi.watch (X' := fun _ => False) (Below.refl _ _) (fun _ h => h.elim))
                clear hmi how hzl
                obtain ⟨rm, hrm⟩ : ∃ rm, rm = k % 40 := ⟨_, rfl⟩
                have hrb : rm < 40 := by omega
                have m1 : ((k : Int)) % 40 = (rm : Int) := by omega
                have m2 : ((k : Int)).tmod 40 = (rm : Int) := by rw [Int.tmod_eq_emod_of_nonneg (by omega)]; exact m1
                clear hrm
                by_cases hz : rm = 0
                · subst hz
                  have HB1 := aside' HE.out.pd.dBytes
                  go_wp2_with fail
                  refine Calls.mono HB1.out ?_
                  rintro e v3 ⟨u1, rfl, hv1, hb3⟩
                  have HE3 := aside' (HE.out.later hb3)
                  have HB2 := aside' HE3.out.pd.rBytes
                  have HV1 := aside' hv1
                  have hlen := HE.out.pd.len
                  clear hv1 hb3 HB1
                  go_wp2_with fail
                  refine Calls.mono HB2.out ?_
                  rintro e v4 ⟨u2, rfl, hv2, hb4⟩
                  obtain ⟨A1, c1, rfl, _, R1⟩ := own_reads HV1.out
                  obtain ⟨A2, c2, rfl, _, R2⟩ := own_reads hv2
                  have HSB := aside' (same_bytes A1 A2 _ c1 _ c2 _ _ v4 (R1.below hb4) R2)
                  rw [decide_eq_true rfl] at HSB
                  have HE4 := aside' (HE3.out.later hb4)
                  clear R1 R2 hv2 hb4 HB2 HE3 HV1
                  go_wp2_with fail
                  refine Calls.mono HSB.out ?_
                  rintro e v5 ⟨rfl, q6, rfl⟩
                  have HE5 := aside' (HE4.out.later (below_drewN (Below.refl _ _) q6))
                  clear HE4 HSB
                  by_cases hk2 : k < 200
                  · have g5 : decide ((k : Int) < 200) = true := decide_eq_true (by omega)
                    have HB3 := aside' HE5.out.pd.dBytes
                    go_wp2_with fail
                    refine Calls.mono HB3.out ?_
                    rintro e v6 ⟨u3, rfl, hv3, hb6⟩
                    obtain ⟨A3, L3', c3, rfl, HL3⟩ := own_form hv3
                    have hL3 := HL3.out
                    have hol := own_lt hv3
                    have hsz := HE5.out.pd.bs
                    have hbl := HE5.out.bs.lt
                    have HE6 := HE5.out.watch (X' := fun j => (Value.slice A3 L3' c3).ownBlock = some j) hb6 (fun j hj => .inr (hol j hj))
                    subst hL3
                    have HKP := aside' (HE6.bs.keep (A := A3) (n := (oBytes S2).length) (c := c3) (base2 := (v4.drewN q6).heap.size) (xs := oBytes S2) (by omega) hsz hv3 (by omega) (fun j hj hz => by have := (hbl j hz).2; have := (hol j hj).1; omega))
                    have HE6 := aside' HE6
                    clear hv3 hb6 HB3 hol hbl HL3
                    generalize (oBytes S2).length = nb at *
                    go_wp2_with fail
                    refine Calls.mono HKP.out ?_
                    rintro e v7 ⟨⟨u4', rfl⟩, row', F', ns', hbs', hf', hz'⟩
                    have HFIN := aside' (show Hd w z b d r room (k + 1) v7 from ⟨S2, row', _, F', ns', by simp only [List.length_append, List.length_singleton]; omega, HE6.out.kept hbs' hf' hz'⟩)
                    clear hbs' hf' hz' HKP HE6
                    go_wp2
                    go_roundw
                    case rel => exact ⟨k + 1, by omega, by go_num, HFIN.out⟩
                    case measure => (simp [intOf]; omega)
                  · have g5 : decide ((k : Int) < 200) = false := decide_eq_false (by omega)
                    go_wp2
                    go_roundw
                    case rel => exact ⟨k + 1, by omega, by go_num, S2, row, ps, F, ns, by omega, HE5.out⟩
                    case measure => (simp [intOf]; omega)
                · have g6 : ((rm : Int) == 0) = false := by rw [beq_eq_false_iff_ne]; omega
                  go_wp2
                  go_roundw
                  case rel => exact ⟨k + 1, by omega, by go_num, S2, row, ps, F, ns, by omega, HE.out⟩
                  case measure => (simp [intOf]; omega)

        · obtain rfl : k = n := by omega
          have g3 : decide ((k : Int) < (k : Int)) = false := decide_eq_false (by omega)
          have HA := aside' (HMI.out.bs.apart (by omega))
          go_wp2_with fail
          refine Calls.mono HA.out ?_
          rintro e v1 ⟨rfl, hfa⟩
          have hsh := HMI.out.shut hfa
          have HSH := aside' hsh
          have HB1 := aside' hsh.1.dBytes
          clear hfa hsh HA HMI
          go_wp2_with fail
          refine Calls.mono HB1.out ?_
          rintro e v3 ⟨u1, rfl, hv1, hb3⟩
          have HE3 := aside' (And.intro (HSH.out.1.later hb3) (And.intro (HSH.out.2.1.later hb3) (HSH.out.2.2.trans (hb3.mono HSH.out.2.2.size))))
          have HB2 := aside' HE3.out.1.rBytes
          have HV1 := aside' hv1
          clear hv1 hb3 HB1 HSH
          go_wp2_with fail
          refine Calls.mono HB2.out ?_
          rintro e v4 ⟨u2, rfl, hv2, hb4⟩
          obtain ⟨A1, c1, rfl, _, R1⟩ := own_reads HV1.out
          obtain ⟨A2, c2, rfl, _, R2⟩ := own_reads hv2
          have HSB := aside' (same_bytes A1 A2 _ c1 _ c2 _ _ v4 (R1.below hb4) R2)
          rw [decide_eq_true rfl] at HSB
          have HE4 := aside' (And.intro (HE3.out.2.1.later hb4) (HE3.out.2.2.trans (hb4.mono HE3.out.2.2.size)))
          clear R1 R2 hv2 hb4 HB2 HE3 HV1
          go_wp2_with fail
          refine Calls.mono HSB.out ?_
          rintro e v5 ⟨rfl, q6, rfl⟩
          have HZ5 := aside' (And.intro (show Zero (v4.drewN q6) z from HE4.out.1) (below_drewN HE4.out.2 q6))
          have HBZ := aside' (bytes_any z none 0 0 [] (v4.drewN q6) (cellOf HZ5.out.1 1) ⟨rfl, by decide, fun h => by omega⟩ (by decide))
          clear HE4 HSB
          go_wp2_with fail
          refine Calls.mono HBZ.out ?_
          rintro e v6 ⟨u3, rfl, hv3, hb6⟩
          obtain ⟨A3, L3', c3, rfl, HL3⟩ := own_form hv3
          have hL3 : L3' = 0 := HL3.out
          subst hL3
          have HZ6 := aside' (And.intro (HZ5.out.1.later hb6) (HZ5.out.2.trans (hb6.mono HZ5.out.2.size)))
          have HBN := aside' (bytes_none (w := v6))
          clear hv3 hb6 HBZ HZ5 HL3
          go_wp2_with fail
          refine Calls.mono HBN.out ?_
          rintro e v7 ⟨rfl, hw7⟩
          have hw7 := hw7.symm
          subst hw7
          have HDZ := aside' (down_any z false v7 (cellOf HZ6.out.1 2))
          go_wp2_with fail
          refine Calls.mono HDZ.out ?_
          rintro e v8 ⟨rfl, hw8⟩
          have hw8 := hw8.symm
          subst hw8
          have HDN := aside' (down_none (w := v8))
          go_wp2_with fail
          refine Calls.mono HDN.out ?_
          rintro e v9 ⟨rfl, hw9⟩
          have hw9 := hw9.symm
          subst hw9
          go_wp2
          go_ret
          exact ⟨rfl, HZ6.out.2⟩
end Go.Proofs.YtmoakgkoahjijaaGreatDoor
