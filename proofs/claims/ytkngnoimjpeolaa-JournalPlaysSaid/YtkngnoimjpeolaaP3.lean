/-
  The walk of the law JournalPlays.
-/
import Derived.Test.YtkngnoimjpeolaaP2
import Derived.Deep.DeepCutAuto
import Derived.BigRegion
import Derived.Test.YtkngnoimjpeolaaFloatTail
set_option linter.unusedVariables false
set_option linter.unusedSimpArgs false
namespace Go.Proofs.Ytkngnoimjpeolaa
open Go.RowKit SumsMath

section
variable {P : Program} {ops : Array Oper} {Q : Exit → Act → World → Prop} {S : World → Prop} {K : Act → World → Prop} {i : Nat} {l : List Pl} {a : Act} {w : World} {o : Oper}
theorem Pl.wp_float_g (ho : ops[i]? = some o) (hw : Region.wanted o (yielded ops a.tmps) = true) (v : Value) (hv : ∀ U, S U → (execOp a.eval o).run P U = .ok (.value v) U)
    (hQ : ∀ c a w, Q (.panic c) (a.put o.dst v) w → Q (.panic c) a w) (h : Pl.wp P ops Q S K l (a.put o.dst v) w) : Pl.wp P ops Q S K (.float i :: l) a w := by
  simp only [Pl.wp, ho]
  exact ⟨v, .inl ⟨hw, hv⟩, hQ, h⟩
theorem Pl.wp_one_g (ho : ops[i]? = some o) (hw : Region.wanted o (yielded ops a.tmps) = true) (h : Oper.wp P o a w (fun a' w' => S w' ∧ Pl.wp P ops Q S K l a' w') Q) : Pl.wp P ops Q S K (.one i :: l) a w := by
  simp only [Pl.wp, ho]
  rw [if_pos hw]
  exact h
end
set_option maxRecDepth 100000 in
set_option maxHeartbeats 6400000 in
theorem plays_law (room : Int) (hroom : -9223372036854775808 ≤ room ∧ room ≤ 9223372036854775807) (A : Option Addr) (n c : Nat) (os : List (Int × Int × List Int)) (w : World) (hR : ReadsOps w A n os) (hby : ∀ j, j < os.length → Bytes (os.getD j zO).2.2) (hk : ∀ j, j < os.length → 0 ≤ (os.getD j zO).1 ∧ (os.getD j zO).1 ≤ 255) (hn : n ≤ 140737488355328) :
    Calls Try.prog 6 #[.int .i64 room, .slice A n c] w fun e w' => e = .returned (.bool true) ∧ Below w.heap.size w w' := by
  have hl := hR.1
  have HR := aside' (And.intro hR (And.intro hby (And.intro hl hk)))
  clear hR hby hl hk
  by_cases h200 : 200 < n
  · have g1 : decide (200 < (n : Int)) = true := decide_eq_true (by omega)
    go_enter Try.func6, Try.ntmps6
    go_wp2
    go_ret
    exact ⟨rfl, Below.refl _ _⟩
  · have g1 : decide (200 < (n : Int)) = false := decide_eq_false (by omega)
    have HSZ := aside' (size_any A n c os w HR.out.1 hn)
    go_enter Try.func6, Try.ntmps6
    go_wp2_with fail
    refine Calls.mono HSZ.out ?_
    rintro e w1 ⟨T, rfl, hT, hw1⟩
    have hw1 := hw1.symm
    subst hw1
    clear HSZ
    by_cases hT1 : 100000 < T
    · have g2 : decide (100000 < (T : Int)) = true := decide_eq_true (by omega)
      go_wp2
      go_ret
      exact ⟨rfl, Below.refl _ _⟩
    · have g2 : decide (100000 < (T : Int)) = false := decide_eq_false (by omega)
      have HN1 := aside' (New_any room w)
      go_wp2_with fail
      refine Calls.mono HN1.out ?_
      rintro e w1 ⟨d, E1, rfl, hd⟩
      have HD := aside' hd
      have HN2 := aside' (RNew_any room w1)
      clear hd HN1
      go_wp2_with fail
      refine Calls.mono HN2.out ?_
      rintro e w2 ⟨r, E2, rfl, hr⟩
      have HP := aside' (PR.start HD.out hr)
      clear hr HN2 HD
      go_wp2
      generalize w2.alloc (.cells #[.int .i64 0, .slice none 0 0, .bool false, .nilFunc] 58) = W0 at *
      generalize w2.heap.size = z at *
      go_loopw [10] (fun i wr => ∃ k : Nat, k ≤ n ∧ i = .int .i64 k ∧ ∃ S q bx, Aside (PR w wr z q bx d r room S S)) (fun i _ => n - (intOf i).toNat)
      case atStart => exact ⟨0, Nat.zero_le _, rfl, _, _, _, HP.out⟩
      case round =>
        obtain ⟨k, hk, rfl, S, q0, bx0, HI⟩ := hrel
        by_cases hlt : k < n
        · have g3 : decide ((k : Int) < (n : Int)) = true := decide_eq_true (by omega)
          obtain ⟨xb, xo, rfl, hxb, hxs⟩ := HR.out.1.2.2 (by omega)
          obtain ⟨B, dd, hc0, hc1, hc2, hd1, hd2, hrx⟩ := hxs k hlt
          have hb := HI.out.below
          have hx0 := (hb.cell (p := ⟨xb, xo + k * 3, none⟩) hxb).trans hc0
          have hx1 := (hb.cell (p := ⟨xb, xo + k * 3 + 1, none⟩) hxb).trans hc1
          have hx2 := (hb.cell (p := ⟨xb, xo + k * 3 + 2, none⟩) hxb).trans hc2
          have HRX := aside' (hrx.below hb)
          have HBX := aside' (HR.out.2.1 k (by rw [HR.out.2.2.1]; exact hlt))
          have hkd := HR.out.2.2.2 k (by rw [HR.out.2.2.1]; exact hlt)
          generalize (os.getD k zO).2.2 = x at *
          generalize (os.getD k zO).2.1 = N at *
          generalize (os.getD k zO).1 = kd at *
          have i0 : (0 : Int) ≤ (k : Int) := by omega
          have i1 : (k : Int) < (n : Int) := by omega
          clear hxs hc0 hc1 hc2 hb
          go_upto_region 10 with fail
          have ha : Below wr.heap.size wr (wr.alloc (.cells #[.int .u8 kd, .int .i64 N, .slice B x.length dd] 60)) := (Below.refl _ _).alloc (Nat.le_refl _) _
          have HP1 := aside' (HI.out.rebox (.cells #[.int .u8 kd, .int .i64 N, .slice B x.length dd] 60))
          have HX0 := aside' hrx
          have HRX1 := aside' (HRX.out.below ha)
          have hq := heap_alloc_new wr (.cells #[.int .u8 kd, .int .i64 N, .slice B x.length dd] 60)
          have c0 : (wr.alloc (.cells #[.int .u8 kd, .int .i64 N, .slice B x.length dd] 60)).cell? ⟨wr.heap.size, 0, none⟩ = some (.int .u8 kd) := cellOf hq 0
          have c1 : (wr.alloc (.cells #[.int .u8 kd, .int .i64 N, .slice B x.length dd] 60)).cell? ⟨wr.heap.size, 1, none⟩ = some (.int .i64 N) := cellOf hq 1
          have c2 : (wr.alloc (.cells #[.int .u8 kd, .int .i64 N, .slice B x.length dd] 60)).cell? ⟨wr.heap.size, 2, none⟩ = some (.slice B x.length dd) := cellOf hq 2
          clear ha hq hx0 hx1 hx2 HRX HI hrx HRX1
          generalize wr.alloc (.cells #[.int .u8 kd, .int .i64 N, .slice B x.length dd] 60) = W1 at *
          generalize wr.heap.size = q at *
          by_cases k2 : kd = 2
          · subst k2
            have HO := aside' HP1.out.dOpen2
            go_wp2_with fail
            refine Calls.mono HO.out ?_
            rintro e w3 ⟨out, rfl, hr3, hp3, hk3⟩
            have HO2 := aside' (rOpen2 hp3 hr3 hk3)
            clear hr3 hp3 hk3 HO
            go_wp2_with fail
            refine Calls.mono HO2.out ?_
            rintro e w4 ⟨out2, rfl, hr4, hr5, hp4⟩
            have HO3 := aside' (And.intro hp4.zOpen (And.intro hr4 (And.intro hr5 hp4)))
            clear hr4 hr5 hp4 HO2
            go_wp2_with fail
            refine Calls.mono HO3.out.1 ?_
            rintro e w5 ⟨rfl, hb5⟩
            have HPF := aside' (HO3.out.2.2.2.later hb5)
            have keep : ∀ {b : Nat} {o : Value} {l : List (List Int)}, RowsAt w4 b o l → RowsAt w5 b o l := fun h => h.map (fun g cs t _ hh => (hb5.block g (Array.getElem?_eq_some_iff.1 hh).1).trans hh)
            obtain ⟨Ao, co, rfl, _, hRo⟩ := (keep HO3.out.2.2.1).reads (oOpen_short S)
            obtain ⟨Ap, cp, rfl, _, hRp⟩ := (keep HO3.out.2.1).reads (oOpen_short S)
            have HSR := aside' (same_records Ao Ap (oOpen S).2.1.length co cp (oOpen S).2.1 w5 hRo hRp)
            clear hRo hRp keep HO3 hb5
            have e1 : ((oOpen S).1 == (oOpen S).1) = true := by simp
            generalize (oOpen S).1 = E at *
            generalize (oOpen S).2.1.length = LL at *
            generalize (oOpen S).2.2 = S2 at *
            go_wp2_with fail
            refine Calls.mono HSR.out ?_
            rintro e w6 ⟨rfl, q6, rfl⟩
            have HPF := aside' (HPF.out.later (below_drewN (Below.refl _ _) q6))
            have HDN := aside' HPF.out.dDown
            have HRN := aside' HPF.out.rDown
            have b1 : (oDown (S2) != oDown (S2)) = false := by simp
            generalize oDown (S2) = od at *
            go_wp2_with fail
            refine Calls.mono HDN.out ?_
            rintro e wa ⟨rfl, hwa⟩
            have hwa := hwa.symm
            subst hwa
            go_wp2_with fail
            refine Calls.mono HRN.out ?_
            rintro e wb ⟨rfl, hwb⟩
            have hwb := hwb.symm
            subst hwb
            go_wp2
            go_roundw
            case rel => exact ⟨k + 1, by omega, by go_num, _, _, _, HPF.out⟩
            case measure => (simp [intOf]; omega)
          · have f2 : (kd == 2) = false := by rw [beq_eq_false_iff_ne]; exact k2
            by_cases k3 : kd = 3
            · subst k3
              go_wp2_with fail
              refine region_float (fun U => U.cell? ⟨q, 1, none⟩ = some (.int .i64 N)) 8 [.float 0, .float 1, .float 2, .float 4, .float 5, .float 6, .one 3, .one 7] (by kernel_rfl) (by kernel_rfl) c1 ?_
              refine Pl.wp_float rfl rfl (.pointer d) (fun U hU => by go_simp) (fun _ _ _ h => h) ?_
              refine Pl.wp_float rfl rfl (.pointer (some ⟨q, 1, none⟩)) (fun U hU => by go_simp) (fun _ _ _ h => h) ?_
              refine Pl.wp_float rfl rfl (.int .i64 N) (fun U hU => by go_simp) (fun _ _ _ h => h) ?_
              refine Pl.wp_float rfl rfl (.pointer r) (fun U hU => by go_simp) (fun _ _ _ h => h) ?_
              refine Pl.wp_float rfl rfl (.pointer (some ⟨q, 1, none⟩)) (fun U hU => by go_simp) (fun _ _ _ h => h) ?_
              refine Pl.wp_float rfl rfl (.int .i64 N) (fun U hU => by go_simp) (fun _ _ _ h => h) ?_
              refine Pl.wp_one rfl rfl ?_
              go_simp
              refine Calls.mono ((HP1.out.later (Below.refl _ _).drew).dFail N) ?_
              rintro e w3 ⟨rfl, hp3⟩
              refine ⟨cellOf hp3.box 1, ?_⟩
              refine Pl.wp_one rfl rfl ?_
              go_simp
              refine Calls.mono (hp3.rFail N) ?_
              rintro e w4 ⟨rfl, hp4⟩
              refine ⟨cellOf hp4.box 1, ?_⟩
              have HPF := aside' hp4
              clear hp3 hp4
              simp only [Pl.wp, List.drop]
              have e1 : ((oFail S N).1 == (oFail S N).1) = true := by simp
              generalize (oFail S N).1 = E at *
              generalize (oFail S N).2 = S2 at *
              have HDN := aside' HPF.out.dDown
              have HRN := aside' HPF.out.rDown
              have b1 : (oDown (S2) != oDown (S2)) = false := by simp
              generalize oDown (S2) = od at *
              go_wp2_with fail
              refine Calls.mono HDN.out ?_
              rintro e wa ⟨rfl, hwa⟩
              have hwa := hwa.symm
              subst hwa
              go_wp2_with fail
              refine Calls.mono HRN.out ?_
              rintro e wb ⟨rfl, hwb⟩
              have hwb := hwb.symm
              subst hwb
              go_wp2
              go_roundw
              case rel => exact ⟨k + 1, by omega, by go_num, _, _, _, HPF.out⟩
              case measure => (simp [intOf]; omega)
            · have f3 : (kd == 3) = false := by rw [beq_eq_false_iff_ne]; exact k3
              by_cases k4 : kd = 4
              · subst k4
                have HO := aside' HP1.out.dUp
                go_wp2_with fail
                refine Calls.mono HO.out ?_
                rintro e w3 ⟨rfl, hp3⟩
                have HO2 := aside' hp3.rUp
                clear hp3 HO
                have e1 : ((oUp S).1 == (oUp S).1) = true := by simp
                generalize (oUp S).1 = E at *
                generalize (oUp S).2 = S2 at *
                go_wp2_with fail
                refine Calls.mono HO2.out ?_
                rintro e w4 ⟨rfl, hp4⟩
                have HPF := aside' hp4
                clear hp4
                have HDN := aside' HPF.out.dDown
                have HRN := aside' HPF.out.rDown
                have b1 : (oDown (S2) != oDown (S2)) = false := by simp
                generalize oDown (S2) = od at *
                go_wp2_with fail
                refine Calls.mono HDN.out ?_
                rintro e wa ⟨rfl, hwa⟩
                have hwa := hwa.symm
                subst hwa
                go_wp2_with fail
                refine Calls.mono HRN.out ?_
                rintro e wb ⟨rfl, hwb⟩
                have hwb := hwb.symm
                subst hwb
                go_wp2
                go_roundw
                case rel => exact ⟨k + 1, by omega, by go_num, _, _, _, HPF.out⟩
                case measure => (simp [intOf]; omega)
              · have f4 : (kd == 4) = false := by rw [beq_eq_false_iff_ne]; exact k4
                by_cases k5 : kd = 5
                · subst k5
                  go_wp2_with fail
                  refine region_float (fun U => U.cell? ⟨q, 2, none⟩ = some (.slice B x.length dd)) 8 [.float 0, .float 1, .float 2, .float 4, .float 5, .float 6, .one 3, .one 7] (by kernel_rfl) (by kernel_rfl) c2 ?_
                  refine Pl.wp_float rfl rfl (.pointer d) (fun U hU => by go_simp) (fun _ _ _ h => h) ?_
                  refine Pl.wp_float rfl rfl (.pointer (some ⟨q, 2, none⟩)) (fun U hU => by go_simp) (fun _ _ _ h => h) ?_
                  refine Pl.wp_float rfl rfl (.slice B x.length dd) (fun U hU => by go_simp) (fun _ _ _ h => h) ?_
                  refine Pl.wp_float rfl rfl (.pointer r) (fun U hU => by go_simp) (fun _ _ _ h => h) ?_
                  refine Pl.wp_float rfl rfl (.pointer (some ⟨q, 2, none⟩)) (fun U hU => by go_simp) (fun _ _ _ h => h) ?_
                  refine Pl.wp_float rfl rfl (.slice B x.length dd) (fun U hU => by go_simp) (fun _ _ _ h => h) ?_
                  refine Pl.wp_one rfl rfl ?_
                  go_simp
                  have hp1 := HP1.out.later (Below.refl _ _).drew
                  refine Calls.mono (hp1.dApp HBX.out (HX0.out.below hp1.below) hd1) ?_
                  rintro e w3 ⟨rfl, hp3⟩
                  refine ⟨cellOf hp3.box 2, ?_⟩
                  refine Pl.wp_one rfl rfl ?_
                  go_simp
                  refine Calls.mono (hp3.rApp HBX.out (HX0.out.below hp3.below) hd1) ?_
                  rintro e w4 ⟨rfl, hp4⟩
                  refine ⟨cellOf hp4.box 2, ?_⟩
                  have HPF := aside' hp4
                  clear hp1 hp3 hp4
                  simp only [Pl.wp, List.drop]
                  have e1 : ((oApp room S x).1 == (oApp room S x).1) = true := by simp
                  generalize (oApp room S x).1 = E at *
                  generalize (oApp room S x).2 = S2 at *
                  have HDN := aside' HPF.out.dDown
                  have HRN := aside' HPF.out.rDown
                  have b1 : (oDown (S2) != oDown (S2)) = false := by simp
                  generalize oDown (S2) = od at *
                  go_wp2_with fail
                  refine Calls.mono HDN.out ?_
                  rintro e wa ⟨rfl, hwa⟩
                  have hwa := hwa.symm
                  subst hwa
                  go_wp2_with fail
                  refine Calls.mono HRN.out ?_
                  rintro e wb ⟨rfl, hwb⟩
                  have hwb := hwb.symm
                  subst hwb
                  go_wp2
                  go_roundw
                  case rel => exact ⟨k + 1, by omega, by go_num, _, _, _, HPF.out⟩
                  case measure => (simp [intOf]; omega)
                · have f5 : (kd == 5) = false := by rw [beq_eq_false_iff_ne]; exact k5
                  go_wp2_with fail
                  refine region_float (fun U => U.cell? ⟨q, 2, none⟩ = some (.slice B x.length dd)) 21 [.float 0, .float 1, .float 2, .float 4, .float 5, .float 6, .one 3, .one 7, .float 8, .float 9, .float 10, .float 11, .float 12, .one 13, .float 14, .float 15, .float 16, .float 17, .float 18, .one 19, .float 20] (by kernel_rfl) (by kernel_rfl) c2 ?_
                  have e1 : ((oAdd room S x).1 == (oAdd room S x).1) = true := by simp
                  refine Pl.wp_float rfl rfl (.pointer d) (fun U hU => by go_simp) (fun _ _ _ h => h) ?_
                  refine Pl.wp_float rfl rfl (.pointer (some ⟨q, 2, none⟩)) (fun U hU => by go_simp) (fun _ _ _ h => h) ?_
                  refine Pl.wp_float rfl rfl (.slice B x.length dd) (fun U hU => by go_simp) (fun _ _ _ h => h) ?_
                  refine Pl.wp_float rfl rfl (.pointer r) (fun U hU => by go_simp) (fun _ _ _ h => h) ?_
                  refine Pl.wp_float rfl rfl (.pointer (some ⟨q, 2, none⟩)) (fun U hU => by go_simp) (fun _ _ _ h => h) ?_
                  refine Pl.wp_float rfl rfl (.slice B x.length dd) (fun U hU => by go_simp) (fun _ _ _ h => h) ?_
                  have hp1 := HP1.out.later (Below.refl _ _).drew
                  refine Pl.wp_one rfl rfl ?_
                  go_simp
                  refine Calls.mono (hp1.dAdd HBX.out (HX0.out.below hp1.below)) ?_
                  rintro e w3 ⟨rfl, hp3⟩
                  refine ⟨cellOf hp3.box 2, ?_⟩
                  refine Pl.wp_one rfl rfl ?_
                  go_simp
                  refine Calls.mono (hp3.rAdd HBX.out (HX0.out.below hp3.below)) ?_
                  rintro e w4 ⟨rfl, hp4⟩
                  refine ⟨cellOf hp4.box 2, ?_⟩
                  refine Pl.wp_float rfl rfl (.bool true) (fun U hU => by go_simp) (fun _ _ _ h => h) ?_
                  refine Pl.wp_float rfl rfl (.bool true) (fun U hU => by go_simp) (fun _ _ _ h => h) ?_
                  refine Pl.wp_float_g rfl rfl (.pointer (some ⟨z, 0, none⟩)) (fun U hU => by go_simp) (fun _ _ _ h => h) ?_
                  refine Pl.wp_float_g rfl rfl (.pointer (some ⟨q, 2, none⟩)) (fun U hU => by go_simp) (fun _ _ _ h => h) ?_
                  refine Pl.wp_float_g rfl rfl (.slice B x.length dd) (fun U hU => by go_simp) (fun _ _ _ h => h) ?_
                  refine Pl.wp_one_g rfl rfl ?_
                  go_simp
                  refine Calls.mono (hp4.zAdd HBX.out (HX0.out.below hp4.below)) ?_
                  rintro e w5 ⟨rfl, hp5⟩
                  refine ⟨cellOf hp5.box 2, ?_⟩
                  refine Pl.wp_float_g rfl rfl (.bool true) (fun U hU => by go_simp) (fun _ _ _ h => h) ?_
                  refine Pl.wp_float rfl rfl (.bool true) (fun U hU => by go_simp) (fun _ _ _ h => h) ?_
                  refine Pl.wp_float rfl rfl (.bool true) (fun U hU => by go_simp) (fun _ _ _ h => h) ?_
                  refine Pl.wp_float_g rfl rfl (.pointer (some ⟨q, 2, none⟩)) (fun U hU => by go_simp) (fun _ _ _ h => h) ?_
                  refine Pl.wp_float_g rfl rfl (.slice B x.length dd) (fun U hU => by go_simp) (fun _ _ _ h => h) ?_
                  refine Pl.wp_one_g rfl rfl ?_
                  go_simp
                  refine Calls.mono (hp5.nAdd HBX.out (HX0.out.below hp5.below)) ?_
                  rintro e w6 ⟨rfl, hp6⟩
                  refine ⟨cellOf hp6.box 2, ?_⟩
                  refine Pl.wp_float_g rfl rfl (.bool true) (fun U hU => by go_simp) (fun _ _ _ h => h) ?_
                  have HPF := aside' hp6
                  clear hp1 hp3 hp4 hp5 hp6
                  simp only [Pl.wp, List.drop]
                  generalize (oAdd room S x).1 = E at *
                  generalize (oAdd room S x).2 = S2 at *
                  have HDN := aside' HPF.out.dDown
                  have HRN := aside' HPF.out.rDown
                  have b1 : (oDown (S2) != oDown (S2)) = false := by simp
                  generalize oDown (S2) = od at *
                  go_wp2_with fail
                  refine Calls.mono HDN.out ?_
                  rintro e wa ⟨rfl, hwa⟩
                  have hwa := hwa.symm
                  subst hwa
                  go_wp2_with fail
                  refine Calls.mono HRN.out ?_
                  rintro e wb ⟨rfl, hwb⟩
                  have hwb := hwb.symm
                  subst hwb
                  go_wp2
                  go_roundw
                  case rel => exact ⟨k + 1, by omega, by go_num, _, _, _, HPF.out⟩
                  case measure => (simp [intOf]; omega)
        · obtain rfl : k = n := by omega
          have g3 : decide ((k : Int) < (k : Int)) = false := decide_eq_false (by omega)
          have HB1 := aside' HI.out.dBytes
          go_wp2_with fail
          refine Calls.mono HB1.out ?_
          rintro e w3 ⟨v1, rfl, hv1, hb3⟩
          have HI3 := aside' (HI.out.later hb3)
          have HB2 := aside' HI3.out.rBytes
          have HV1 := aside' hv1
          clear hv1 hb3 HB1
          go_wp2_with fail
          refine Calls.mono HB2.out ?_
          rintro e w4 ⟨v2, rfl, hv2, hb4⟩
          obtain ⟨A1, c1, rfl, _, R1⟩ := own_reads HV1.out
          obtain ⟨A2, c2, rfl, _, R2⟩ := own_reads hv2
          have HSB := aside' (same_bytes A1 A2 _ c1 _ c2 _ _ w4 (R1.below hb4) R2)
          rw [decide_eq_true rfl] at HSB
          have HI4 := aside' (HI3.out.later hb4)
          clear R1 R2 hv2 hb4 HB2
          go_wp2_with fail
          refine Calls.mono HSB.out ?_
          rintro e w5 ⟨rfl, q5, rfl⟩
          go_wp2
          go_ret
          exact ⟨rfl, below_drewN HI4.out.below q5⟩
end Go.Proofs.Ytkngnoimjpeolaa
