/-
  The walk of the law JournalHolds.
-/
import Derived.Test.YtkngnoimjpeolaaJHolds0
import Derived.Deep.DeepCutAuto
set_option linter.unusedVariables false
set_option linter.unusedSimpArgs false
namespace Go.Proofs.Ytkngnoimjpeolaa
open Go.RowKit SumsMath

set_option maxRecDepth 100000 in
set_option maxHeartbeats 6400000 in
theorem holds_law (A : Option Addr) (n c : Nat) (ts : List (List Int × Int)) (w : World) (hR : ReadsTurns w A n ts) (hby : ∀ j, j < ts.length → Bytes (ts.getD j zT).1) (hn : n ≤ 140737488355328) (hfs : ∀ j, j < ts.length → (ts.getD j zT).2 ≤ 9223372036854775807) :
    Calls Try.prog 4 #[.slice A n c] w fun e w' => e = .returned (.bool true) ∧ Below w.heap.size w w' := by
  have hl := hR.1
  have HR := aside' (And.intro hR (And.intro hby (And.intro hl hfs)))
  clear hR hby hl hfs
  go_enter Try.func4, Try.ntmps4
  go_wp2
  go_loop [3, 4] (fun s i => ∃ k : Nat, k ≤ n ∧ i = .int .i64 k ∧ ∃ S : Nat, S ≤ 140737488551300 ∧ s = .int .i64 S ∧ Aside (S = k + tlen (ts.take k))) (fun _ i => n - (intOf i).toNat)
  case atStart => exact ⟨0, Nat.zero_le _, rfl, 0, by omega, rfl, aside' (by simp [tlen])⟩
  case round =>
    obtain ⟨k, hk, rfl, S, hS, rfl, HS⟩ := hrel
    by_cases hs : S ≤ 200000
    · have g2 : decide ((S : Int) ≤ 200000) = true := decide_eq_true (by omega)
      by_cases hlt : k < n
      · have g1 : decide ((k : Int) < (n : Int)) = true := decide_eq_true (by omega)
        obtain ⟨xb, xo, rfl, hxb, hxs⟩ := HR.out.1.2.2 (by omega)
        obtain ⟨B, d, hc0, hc1, hd1, hd2, hrx⟩ := hxs k hlt
        have hS2 := HS.out
        have ht := tlen_take ts k (by rw [HR.out.2.2.1]; exact hlt)
        have HN := aside' (show S + 1 + (ts.getD k zT).1.length = k + 1 + tlen (ts.take (k + 1)) by omega)
        generalize (ts.getD k zT).1.length = xl at *
        have i0 : (0 : Int) ≤ (k : Int) := by omega
        have i1 : (k : Int) < (n : Int) := by omega
        clear hxs hc1 hrx ht hS2
        go_wp2
        go_round
        case rel => exact ⟨k + 1, by omega, by go_num, S + 1 + xl, by omega, by go_num, HN.out⟩
        case measure => (simp [intOf]; omega)
      · obtain rfl : k = n := by omega
        have hS2 := HS.out
        have hT : k + tlen ts ≤ 200000 := by
          rw [List.take_of_length_le (by rw [HR.out.2.2.1]; exact Nat.le_refl _)] at hS2
          omega
        have HT := aside' hT
        have hk2 : k ≤ 200000 := by omega
        clear hS2 hT HS
        have g1 : decide ((k : Int) < (k : Int)) = false := decide_eq_false (by omega)
        have g3 : decide ((200000 : Int) < (S : Int)) = false := decide_eq_false (by omega)
        go_wp2_with fail
        refine Calls.mono (alive_any w) ?_
        rintro e w1 ⟨rfl, hb1⟩
        have HNW := aside' (HK.new w w1 hb1)
        clear hb1
        go_wp2_with fail
        refine Calls.mono HNW.out ?_
        rintro e w2 ⟨rfl, hk2_⟩
        have HK2 := aside' hk2_
        clear hk2_ HNW
        generalize w1.heap.size = g at *
        go_wp2
        go_loopw [7, 8] (fun v i wr => ∃ j : Nat, j ≤ k ∧ i = .int .i64 j ∧ Aside (HK w wr g (JMath.flat (sumF 2) (wl ts j)) false none v (wl ts j))) (fun _ i _ => k - (intOf i).toNat)
        case atStart => exact ⟨0, Nat.zero_le _, rfl, HK2.out⟩
        case round =>
          obtain ⟨j, hj, rfl, HI⟩ := hrel
          have hgood := wl_good ts j HR.out.2.1
          have htl := wl_total ts j
          have hwn := wl_len ts j
          have hflen : (JMath.flat (sumF 2) (wl ts j)).length ≤ 1800000 := by rw [JMath.flat_length]; have := HT.out; have := HR.out.2.2.1; omega
          have HG := aside' hgood
          clear hgood htl
          obtain ⟨vws, hvw1, hvw2⟩ := HI.out.wn
          obtain ⟨Aw, Lw, cw, rfl, HLw⟩ := own_form hvw1
          have hLw := HLw.out
          subst hLw
          clear hvw1 hvw2
          by_cases hlt : j < k
          · have h1 : decide ((j : Int) < (k : Int)) = true := decide_eq_true (by omega)
            obtain ⟨xb, xo, rfl, hxb, hxs⟩ := HR.out.1.2.2 (by omega)
            obtain ⟨B, d, hc0, hc1, hd1, hd2, hrx⟩ := hxs j hlt
            have hcx := (HI.out.below.cell (p := ⟨xb, xo + j * 2, none⟩) hxb).trans hc0
            have hcf := (HI.out.below.cell (p := ⟨xb, xo + j * 2 + 1, none⟩) hxb).trans hc1
            have hrx' := hrx.below HI.out.below
            have hfe := HR.out.2.2.2 j (by rw [HR.out.2.2.1]; exact hlt)
            have hxl := tlen_le ts j (by rw [HR.out.2.2.1]; exact hlt)
            have hTT := HT.out
            obtain ⟨x, hxe⟩ : ∃ x, x = (ts.getD j zT).1 := ⟨_, rfl⟩
            obtain ⟨f, hff⟩ : ∃ f, f = (ts.getD j zT).2 := ⟨_, rfl⟩
            have hkt : keepT (ts.getD j zT) = (gd x && (decide (f < 0) || decide ((x.length : Int) + 8 ≤ f))) := by unfold keepT; rw [hxe, hff]
            have HBX := aside' (show Bytes x from hxe ▸ HR.out.2.1 j (by rw [HR.out.2.2.1]; exact hlt))
            have HYES := aside' (fun h => wl_yes ts j (by rw [HR.out.2.2.1]; exact hlt) (hkt.trans h))
            have HNO := aside' (fun h => wl_no ts j (by rw [HR.out.2.2.1]; exact hlt) (hkt.trans h))
            rw [← hxe] at hcx hd1 hd2 hrx hrx' hc0 hxl HYES
            rw [← hff] at hcf hc1 hfe
            have HX := aside' (And.intro hrx hrx')
            have HC0 := aside' (And.intro hc0 hc1)
            have i0 : (0 : Int) ≤ (j : Int) := by omega
            have i1 : (j : Int) < (k : Int) := by omega
            clear hxs hc0 hc1 hrx hrx' hxe hff hkt
            generalize hle : wl ts j = l at *
            clear hle
            by_cases hgd : 1 ≤ x.length ∧ x.length ≤ 65537
            · have e0 : ((x.length : Int) == 0) = false := by rw [beq_eq_false_iff_ne]; omega
              have e1 : decide (65537 < (x.length : Int)) = false := decide_eq_false (by omega)
              have HGX := aside' (good_of x hgd.1 hgd.2 HBX.out)
              have hgx : gd x = true := decide_eq_true hgd
              have HGD := aside' hgx
              have hx1 := hgd.1
              have hx2 := hgd.2
              clear hgx hgd
              by_cases hf0 : f < 0
              · have e2 : decide (f < 0) = true := decide_eq_true hf0
                have HADD := aside' (HI.out.add (c := d) HBX.out HX.out.2 hx1 hx2 (by omega))
                have HY := aside' (HYES.out (by rw [HGD.out, e2]; rfl))
                clear HYES HNO HI
                go_wp2_with fail
                refine Calls.mono HADD.out ?_
                rintro e w3 ⟨rfl, hk3⟩
                obtain ⟨vws, hvw1, hvw2⟩ := hk3.wn
                have HW3 := aside' (hvw1.alloc (.cells #[.slice B x.length d] 26))
                have HW2 := aside' (And.intro hvw2 (own_len hvw1))
                have HC3 := aside' (Cells.lit w3 26 #[.slice B x.length d] 1 1 rfl (by intro u hu; simp at hu; subst hu; rfl))
                have HK3 := aside' (hk3.later ((Below.refl _ _).alloc (Nat.le_refl _) (.cells #[.slice B x.length d] 26)))
                have hbs := HK3.out.below.size
                clear hk3 hvw1 hvw2 HADD
                go_wp2_with (at_builtin; refine append_cells w.heap.size rfl _ _ 22 26 (.slice none 0 0) 1 24 rfl Try.underlying22 infoSB rfl (by omega) (by omega) (.slice Aw l.length cw) l.length vws [.slice B x.length d] _ 1 1 rfl rfl HW3.out HC3.out hbs (by omega) ?_; intro v5 w5 hown5 hg5 hat5; have hW5 := WantAt.push (w := w) (W' := w5) (base := w.heap.size) (v' := v5) (rows := l) (x := x) (B := B) (d := d) (vs := vws) HW2.out.1 HW2.out.2 hown5 hd1 hd2 HX.out.1; have HK5 := aside' (HK3.out.want hW5 hg5 hat5); obtain ⟨g5, c5, rfl, _, _, _, _⟩ := own_some hown5 (by omega); clear hown5 hg5 hat5 hW5)
                go_roundw
                case rel => exact ⟨j + 1, by omega, by go_num, by rw [HY.out, flat_push]; exact HK5.out⟩
                case measure => (simp [intOf]; omega)
              · have e2 : decide (f < 0) = false := decide_eq_false hf0
                have HF := aside' (HI.out.fail (n := f) (by omega))
                clear HI
                go_wp2_with fail
                refine Calls.mono HF.out ?_
                rintro e w3 ⟨rfl, hk3⟩
                have HK3 := aside' hk3
                have HADD := aside' (hk3.addFail (A := B) (c := d) HBX.out (HX.out.1.below hk3.below) hx1 hx2 (by omega))
                clear hk3 HF
                go_wp2_with fail
                refine Calls.mono HADD.out ?_
                rintro e w4 ⟨rfl, hk4⟩
                have HUP := aside' hk4.up
                clear hk4 HADD HK3
                go_wp2_with fail
                refine Calls.mono HUP.out ?_
                rintro e w5 ⟨rfl, hk5⟩
                have hcf5 := (hk5.below.cell (p := ⟨xb, xo + j * 2 + 1, none⟩) hxb).trans HC0.out.2
                have HK5 := aside' hk5
                clear HUP
                by_cases hlen : (x.length : Int) + 8 ≤ f
                · have e3 : decide ((x.length : Int) + 8 ≤ f) = true := decide_eq_true hlen
                  have HY := aside' (HYES.out (by rw [HGD.out, e2, e3]; rfl))
                  clear HYES HNO
                  obtain ⟨vws, hvw1, hvw2⟩ := hk5.wn
                  have HW3 := aside' (hvw1.alloc (.cells #[.slice B x.length d] 26))
                  have HW2 := aside' (And.intro hvw2 (own_len hvw1))
                  have HC3 := aside' (Cells.lit w5 26 #[.slice B x.length d] 1 1 rfl (by intro u hu; simp at hu; subst hu; rfl))
                  have HK5' := aside' (hk5.later ((Below.refl _ _).alloc (Nat.le_refl _) (.cells #[.slice B x.length d] 26)))
                  have hbs := HK5'.out.below.size
                  clear hk5 hvw1 hvw2 HK5
                  go_wp2_with (at_builtin; refine append_cells w.heap.size rfl _ _ 22 26 (.slice none 0 0) 1 24 rfl Try.underlying22 infoSB rfl (by omega) (by omega) (.slice Aw l.length cw) l.length vws [.slice B x.length d] _ 1 1 rfl rfl HW3.out HC3.out hbs (by omega) ?_; intro v6 w6 hown6 hg6 hat6; have hW6 := WantAt.push (w := w) (W' := w6) (base := w.heap.size) (v' := v6) (rows := l) (x := x) (B := B) (d := d) (vs := vws) HW2.out.1 HW2.out.2 hown6 hd1 hd2 HX.out.1; have HK6 := aside' (HK5'.out.want hW6 hg6 hat6); obtain ⟨g6, c6, rfl, _, _, _, _⟩ := own_some hown6 (by omega); clear hown6 hg6 hat6 hW6)
                  have HOP := aside' (HK.openAfter HG.out.1 HG.out.2 HGX.out HBX.out hflen (l ++ [x]) (if_pos (by omega)) HK6.out)
                  clear HK6
                  refine Calls.mono HOP.out ?_
                  rintro e w7 ⟨Ao, co, rfl, hRo, hk7⟩
                  have HSR := aside' (same_records Ao (some ⟨g6, 0, none⟩) (l ++ [x]).length co c6 (l ++ [x]) w7 hRo hk7.reads.2)
                  have HK7 := aside' hk7
                  clear hRo HOP hk7
                  simp only [List.length_append, List.length_singleton] at HSR HK7 ⊢
                  go_wp2_with fail
                  refine Calls.mono HSR.out ?_
                  rintro e w8 ⟨rfl, q8, rfl⟩
                  have HK8 := aside' (HK7.out.later (below_drewN (Below.refl _ _) q8))
                  clear HK7 HSR
                  go_wp2
                  go_roundw
                  case rel => exact ⟨j + 1, by omega, by go_num, by rw [HY.out]; exact HK8.out⟩
                  case measure => (simp [intOf]; omega)
                · have e3 : decide ((x.length : Int) + 8 ≤ f) = false := decide_eq_false hlen
                  have HY := aside' (HNO.out (by rw [HGD.out, e2, e3]; rfl))
                  clear HYES HNO
                  have HOP := aside' (HK.openAfter HG.out.1 HG.out.2 HGX.out HBX.out hflen l (if_neg (by omega)) HK5.out)
                  clear HK5 hk5
                  go_wp2_with fail
                  refine Calls.mono HOP.out ?_
                  rintro e w7 ⟨Ao, co, rfl, hRo, hk7⟩
                  have HSR := aside' (same_records Ao Aw l.length co cw l w7 hRo hk7.reads.2)
                  have HK7 := aside' hk7
                  clear hRo HOP hk7
                  go_wp2_with fail
                  refine Calls.mono HSR.out ?_
                  rintro e w8 ⟨rfl, q8, rfl⟩
                  have HK8 := aside' (HK7.out.later (below_drewN (Below.refl _ _) q8))
                  clear HK7 HSR
                  go_wp2
                  go_roundw
                  case rel => exact ⟨j + 1, by omega, by go_num, by rw [HY.out]; exact HK8.out⟩
                  case measure => (simp [intOf]; omega)
            · have HBAD := aside' (HI.out.addBad (A := B) (m := x.length) (c := d) (by omega) (by omega))
              have HY := aside' (HNO.out (by rw [show gd x = false from decide_eq_false hgd]; rfl))
              have HK1 := aside' (show HK w wr g (JMath.flat (sumF 2) (wl ts (j + 1))) false none (.slice Aw l.length cw) (wl ts (j + 1)) by rw [HY.out]; exact HI.out)
              clear HYES HNO HI HY
              by_cases h0 : x.length = 0
              · generalize x.length = xl at *
                subst h0
                go_wp2_with fail
                refine Calls.mono HBAD.out ?_
                rintro e w3 ⟨rfl, rfl⟩
                go_wp2
                go_roundw
                case rel => exact ⟨j + 1, by omega, by go_num, HK1.out⟩
                case measure => (simp [intOf]; omega)
              · have e0 : ((x.length : Int) == 0) = false := by rw [beq_eq_false_iff_ne]; omega
                have e1 : decide (65537 < (x.length : Int)) = true := decide_eq_true (by omega)
                generalize x.length = xl at *
                go_wp2_with fail
                refine Calls.mono HBAD.out ?_
                rintro e w3 ⟨rfl, rfl⟩
                go_wp2
                go_roundw
                case rel => exact ⟨j + 1, by omega, by go_num, HK1.out⟩
                case measure => (simp [intOf]; omega)
          · obtain rfl : j = k := by omega
            have h1 : decide ((j : Int) < (j : Int)) = false := decide_eq_false (by omega)
            have HOP := aside' (HI.out.openTo (Reads.bytes_flat HG.out.1 HG.out.2) (by omega) HG.out.1 (JMath.recsF_all (sumF 2) _ HG.out.1) (List.take_of_length_le (by rw [JMath.flat_length]; exact Nat.le_refl _)))
            go_wp2_with fail
            refine Calls.mono HOP.out ?_
            rintro e w3 ⟨Ao, co, rfl, hRo, hk3⟩
            have HSR := aside' (same_records Ao Aw (wl ts j).length co cw (wl ts j) w3 hRo hk3.reads.2)
            have HB3 := aside' hk3.below
            clear hRo HOP HI hk3
            go_wp2_with fail
            refine Calls.mono HSR.out ?_
            rintro e w4 ⟨rfl, q4, rfl⟩
            go_wp2
            go_ret
            exact ⟨rfl, below_drewN HB3.out q4⟩
    · have g2 : decide ((S : Int) ≤ 200000) = false := decide_eq_false (by omega)
      have g3 : decide ((200000 : Int) < (S : Int)) = true := decide_eq_true (by omega)
      clear HS
      by_cases hlt : k < n
      · have g1 : decide ((k : Int) < (n : Int)) = true := decide_eq_true (by omega)
        go_wp2_with fail
        refine Calls.mono (alive_any w) ?_
        rintro e w1 ⟨rfl, hb1⟩
        go_wp2_with fail
        refine Calls.mono (alive_any w1) ?_
        rintro e w2 ⟨rfl, hb2⟩
        go_wp2
        go_ret
        exact ⟨rfl, hb1.trans (hb2.mono hb1.size)⟩
      · have g1 : decide ((k : Int) < (n : Int)) = false := decide_eq_false (by omega)
        go_wp2_with fail
        refine Calls.mono (alive_any w) ?_
        rintro e w1 ⟨rfl, hb1⟩
        go_wp2_with fail
        refine Calls.mono (alive_any w1) ?_
        rintro e w2 ⟨rfl, hb2⟩
        go_wp2
        go_ret
        exact ⟨rfl, hb1.trans (hb2.mono hb1.size)⟩
end Go.Proofs.Ytkngnoimjpeolaa
