/-
  The walk of the law JournalBack.
-/
import Derived.Test.YtkngnoimjpeolaaJRows
import Derived.Deep.DeepCutAuto
set_option linter.unusedVariables false
set_option linter.unusedSimpArgs false
namespace Go.Proofs.Ytkngnoimjpeolaa
open Go.RowKit SumsMath

theorem infoI : (Try.prog.info? 3).map (fun i => (i.zero, i.size, i.bytes)) = some (some (.int .i64 0), 1, 8) := by kernel_rfl
set_option maxRecDepth 100000 in
set_option maxHeartbeats 6400000 in
theorem back_law (A : Option Addr) (n c : Nat) (rows : List (List Int)) (cut : Nat) (hcut : cut ≤ 4294967295) (w : World) (hR : ReadsRows w A n rows) (hby : ∀ j, j < n → Bytes (rows.getD j [])) (h24 : n * 24 ≤ 140737488351232) :
    Calls Try.prog 3 #[.slice A n c, .int .u32 (cut : Int)] w fun e w' => e = .returned (.bool true) ∧ Below w.heap.size w w' := by
  have hl := hR.1
  have HR := aside' (And.intro hR (And.intro (show ∀ j, j < rows.length → Bytes (rows.getD j []) from fun j hj => hby j (by omega)) hl))
  clear hR hby hl
  go_enter Try.func3, Try.ntmps3
  go_wp2_with fail
  refine Calls.mono (alive_any w) ?_
  rintro e w1 ⟨rfl, hb1⟩
  have HG := aside' (great_any A n c rows w1 (HR.out.1.below hb1) (by omega))
  have HB1 := aside' hb1
  clear hb1
  go_wp2_with fail
  refine Calls.mono HG.out ?_
  rintro e w2 ⟨g, rfl, hw2, hg⟩
  have hw2 := hw2.symm
  subst hw2
  cases g with
  | true =>
    clear hg HG
    go_wp2_with fail
    refine Calls.mono (alive_any w1) ?_
    rintro e w3 ⟨rfl, hb3⟩
    go_wp2
    go_ret
    exact ⟨rfl, HB1.out.trans (hb3.mono HB1.out.size)⟩
  | false =>
    have HS := aside' (hg rfl)
    clear hg HG
    have HBK := aside' (BK.start HB1.out)
    have hn2 : n ≤ 200000 := by have := HS.out; omega
    go_wp2_with fail
    go_loopw [5, 6, 7, 8] (fun vb vw ve i wr => ∃ k : Nat, k ≤ n ∧ i = .int .i64 k ∧ Aside (BK w wr vb vw ve (JMath.flat (sumF 2) (gs rows k)) (gs rows k) (endsOf (gs rows k)))) (fun _ _ _ i _ => n - (intOf i).toNat)
    case atStart => exact ⟨0, Nat.zero_le _, rfl, HBK.out⟩
    case round =>
      obtain ⟨k, hk, rfl, HI⟩ := hrel
      have htl := gs_total rows k
      have hgl := gs_len rows k
      have hfl : (JMath.flat (sumF 2) (gs rows k)).length ≤ 1800000 := by rw [JMath.flat_length]; have h1 := HS.out; have h2 := HR.out.2.2; omega
      clear htl
      obtain ⟨Ab, Lb, cb, rfl, HLb⟩ := own_form HI.out.b
      obtain ⟨Ae, Le, ce, rfl, HLe⟩ := own_form HI.out.e
      obtain ⟨vws, hvw1, hvw2⟩ := HI.out.wn
      obtain ⟨Aw, Lw, cw, rfl, HLw⟩ := own_form hvw1
      have HVW := aside' (And.intro hvw1 hvw2)
      by_cases hlt : k < n
      · have g1 : decide ((k : Int) < (n : Int)) = true := decide_eq_true (by omega)
        obtain ⟨xb, xo, rfl, hxb, hxs⟩ := HR.out.1.2.2 (by omega)
        obtain ⟨B, d, hc0, hd1, hd2, hrx⟩ := hxs k hlt
        have hcx := (HI.out.below.cell (p := ⟨xb, xo + k, none⟩) hxb).trans hc0
        have hrx' := hrx.below HI.out.below
        obtain ⟨x, hxe⟩ : ∃ x, x = rows.getD k [] := ⟨_, rfl⟩
        rw [← hxe] at hcx hd1 hd2 hrx hrx'
        have HX := aside' (And.intro hxe (And.intro hrx hrx'))
        have HC0 := aside' (hxe ▸ hc0)
        have HBX := aside' (show Bytes x from hxe ▸ HR.out.2.1 k (by rw [HR.out.2.2]; exact hlt))
        have i0 : (0 : Int) ≤ (k : Int) := by omega
        have i1 : (k : Int) < (n : Int) := by omega
        clear hxs hc0 hxe hrx hrx' hvw1 hvw2
        by_cases hgd : 1 ≤ x.length ∧ x.length ≤ 65537
        · have hyes : gs rows (k + 1) = gs rows k ++ [x] := by rw [HX.out.1]; exact gs_yes rows k (by rw [HR.out.2.2]; exact hlt) (by rw [← HX.out.1]; exact decide_eq_true hgd)
          have HY := aside' hyes
          have HFR := aside' (Frame_ok B x.length d x wr HBX.out HX.out.2.2 hgd.1 hgd.2)
          have hflx : (frm x).length = 8 + x.length := JMath.frame_length (sumF 2) x
          have HFX := aside' hflx
          have hx1 := hgd.1
          have hx2 := hgd.2
          obtain ⟨l, hle⟩ : ∃ l, l = gs rows k := ⟨_, rfl⟩
          rw [← hle] at HI HY hgl hfl HLb HLe HLw HVW
          have HLE := aside' hle
          clear hyes hgd hflx hle
          have hLb := HLb.out
          have hLw := HLw.out
          have hLe := HLe.out
          subst hLb
          subst hLw
          subst hLe
          go_wp2_with fail
          refine Calls.mono HFR.out ?_
          rintro e w3 ⟨q, rfl, hq1, hq2, hb3⟩
          have HQ := aside' (reads_block (k := .u8) (xs := frm x) hq2 rfl HFX.out (by omega))
          have HK3 := aside' (HI.out.later hb3)
          have HB3 := aside' hb3
          have hcx3 := (hb3.cell (p := ⟨xb, xo + k, none⟩) (by have := HI.out.below.size; show xb < wr.heap.size; omega)).trans hcx
          clear hq1 hq2 hb3 HFR hcx
          have hbs : w.heap.size ≤ w3.heap.size := HK3.out.below.size
          go_upto_region 14 with (at_builtin; refine append_row w.heap.size rfl _ _ 26 5 .u8 1 rfl Try.underlying26 infoU8 (by omega) (.slice Ab (JMath.flat (sumF 2) l).length cb) (JMath.flat (sumF 2) l) (frm x) _ (8 + x.length) (8 + x.length) rfl rfl HK3.out.b HQ.out hbs (by omega) ?_; intro v4 w4 hown4 hg4 hat4; have hK4 := HK3.out.appB hown4 hg4 hat4; have hW4 := own_other (own_keep HVW.out.1 HB3.out) hg4 HK3.out.bw; obtain ⟨g4, c4, rfl, _, _, hgc4, _⟩ := own_some hown4 (by rw [List.length_append]; have := HFX.out; omega); have hcx4 : w4.cell? ⟨xb, xo + k, none⟩ = some (.slice B x.length d) := (hK4.below.cell (p := ⟨xb, xo + k, none⟩) hxb).trans HC0.out; have HK4 := aside' hK4; have HW4 := aside' (hW4.alloc (.cells #[.slice B x.length d] 26)); have HC4 := aside' (Cells.lit w4 26 #[.slice B x.length d] 1 1 rfl (by intro u hu; simp at hu; subst hu; rfl)); have hbs4 : w.heap.size ≤ (w4.alloc (.cells #[.slice B x.length d] 26)).heap.size := (hK4.alloc _).below.size; clear hown4 hg4 hat4 hK4 hgc4 hcx3 hW4)
          go_upto_region 15 with (at_builtin; refine append_cells w.heap.size rfl _ _ 22 26 (.slice none 0 0) 1 24 rfl Try.underlying22 infoSB rfl (by omega) (by omega) (.slice Aw l.length cw) l.length vws [.slice B x.length d] _ 1 1 rfl rfl HW4.out HC4.out hbs4 (by omega) ?_; intro v5 w5 hown5 hg5 hat5; have hA5 := HK4.out.alloc (Obj.cells #[Value.slice B x.length d] 26); have hW5 := WantAt.push (w := w) (W' := w5) (base := w.heap.size) (v' := v5) (rows := l) (x := x) (B := B) (d := d) (vs := vws) HVW.out.2 (own_len HVW.out.1) hown5 hd1 hd2 HX.out.2.1; have hK5 := hA5.appW hW5 hg5 hat5; obtain ⟨g5, c5, rfl, _, _, _, _⟩ := own_some hown5 (by omega); have HK5 := aside' hK5; have hbs5 := (hK5.alloc (.cells #[.int .i64 0] 3)).below.size; simp only [World.size_alloc] at hbs5; clear hown5 hg5 hat5 hK5 hcx4)
          go_wp2_with (at_builtin; refine append_row w.heap.size rfl _ _ 27 3 .i64 8 rfl Try.underlying27 infoI (by omega) (.slice Ae (endsOf l).length ce) (endsOf l) [_] _ 1 1 rfl rfl (HK5.out.alloc _).e (reads_one w5 .i64 3 _) (HK5.out.alloc _).below.size (by rw [endsOf_length]; omega) ?_; intro v6 w6 hown6 hg6 hat6; have HK6 := aside' ((HK5.out.alloc _).appE hown6 hg6 hat6); obtain ⟨g6, c6, rfl, _, _, _, _⟩ := own_some hown6 (by rw [List.length_append]; simp); clear hown6 hg6 hat6)
          have hfin : BK w w6 (.slice (some ⟨g4, 0, none⟩) ((JMath.flat (sumF 2) l).length + (frm x).length) c4) (.slice (some ⟨g5, 0, none⟩) (l.length + 1) c5) (.slice (some ⟨g6, 0, none⟩) ((endsOf l).length + 1) c6) (JMath.flat (sumF 2) (gs rows (k + 1))) (gs rows (k + 1)) (endsOf (gs rows (k + 1))) := by
            have h := HK6.out
            simp only [List.length_append, List.length_singleton] at h
            have e : (JMath.total (l ++ [x]) : Int) = ((JMath.flat (sumF 2) l).length : Int) + ((frm x).length : Int) := by
              rw [JMath.total_append, JMath.flat_length, HFX.out]
              simp only [JMath.total]
              omega
            rw [HY.out, flat_push, endsOf_push, e]
            exact h
          go_roundw
          case rel => exact ⟨k + 1, by omega, by go_num, hfin⟩
          case measure => (simp [intOf]; omega)
        · have HNO := aside' (Frame_no B x.length d (by omega) (by omega) wr)
          have hno : gs rows (k + 1) = gs rows k := gs_no rows k (by rw [HR.out.2.2]; exact hlt) (by rw [← HX.out.1]; exact decide_eq_false hgd)
          have HN := aside' (show BK w wr _ _ _ (JMath.flat (sumF 2) (gs rows (k + 1))) (gs rows (k + 1)) (endsOf (gs rows (k + 1))) from hno ▸ HI.out)
          clear hno HI
          go_wp2_with fail
          refine Calls.mono HNO.out ?_
          rintro e w3 ⟨rfl, hw3⟩
          have hw3 := hw3.symm
          subst hw3
          by_cases h0 : x.length = 0
          · have g2 : decide ((0 : Int) < (x.length : Int)) = false := decide_eq_false (by omega)
            clear HNO
            generalize x.length = xl at *
            subst h0
            go_wp2
            go_roundw
            case rel => exact ⟨k + 1, by omega, by go_num, HN.out⟩
            case measure => (simp [intOf]; omega)
          · have g2 : decide ((0 : Int) < (x.length : Int)) = true := decide_eq_true (by omega)
            have g3 : decide ((x.length : Int) ≤ 65537) = false := decide_eq_false (by omega)
            clear HNO
            generalize x.length = xl at *
            go_wp2
            go_roundw
            case rel => exact ⟨k + 1, by omega, by go_num, HN.out⟩
            case measure => (simp [intOf]; omega)
      · obtain rfl : k = n := by omega
        have htl := gs_total rows k
        have hgood := gs_mem rows k HR.out.2.1
        have hbyt := gs_bytes rows k HR.out.2.1
        have hlr := HR.out.2.2
        have hS := HS.out
        generalize gs rows k = l at *
        obtain ⟨T, hT⟩ : ∃ T, T = JMath.total l := ⟨_, rfl⟩
        have hft : (JMath.flat (sumF 2) l).length = T := by rw [JMath.flat_length, hT]
        have hT9 : T ≤ 1800000 := by omega
        rw [hft] at HLb
        have hLb := HLb.out
        subst hLb
        rw [endsOf_length] at HLe
        have hLe := HLe.out
        have hLw := HLw.out
        subst hLe
        subst hLw
        have HL := aside' (And.intro hgood (And.intro hbyt (And.intro hT hft)))
        obtain ⟨Ab2, cb2, hvb, hTc, hRb⟩ := own_reads HI.out.b
        injection hvb with hv1 hv2 hv3
        subst hv1 hv3
        rw [hft] at hRb hTc
        have HRB := aside' hRb
        have HRd := aside' (Read_ok Ab Lb cb (JMath.flat (sumF 2) l) wr (Reads.bytes_flat hgood hbyt) hRb (by omega) hTc)
        rw [JMath.recsF_all (sumF 2) l hgood, ← hT] at HRd
        clear hgood hbyt htl hT hft hlr hS hv2 hRb hvw1 hvw2
        have g1 : decide ((k : Int) < (k : Int)) = false := decide_eq_false (by omega)
        go_wp2_with fail
        refine Calls.mono HRd.out ?_
        rintro e w3 ⟨out, rfl, hr3, hb3⟩
        obtain ⟨Ao, co, rfl, hco, hRo⟩ := hr3.reads (fun y hy => by have := (HL.out.1 y hy).2.1; omega)
        have hK3 := HI.out.later hb3
        obtain ⟨Aw2, cw2, hvw, hwc, hRw⟩ := hK3.wn.reads hK3.below
        injection hvw with hv1 hv2 hv3
        subst hv1 hv3
        have HSR := aside' (same_records Ao Aw l.length co cw l w3 hRo hRw)
        have HK3 := aside' hK3
        clear hr3 hb3 hRo hRw hK3 hv2 HRd HI HRB
        have t1 : ((Lb : Int) != (Lb : Int)) = false := by simp
        go_wp2_with fail
        refine Calls.mono HSR.out ?_
        rintro e w4 ⟨rfl, q4, rfl⟩
        have HK4 := aside' (HK3.out.later (below_drewN (Below.refl _ _) q4))
        clear HK3 HSR
        obtain ⟨kk, hkk⟩ : ∃ kk, kk = cut % (Lb + 1) := ⟨_, rfl⟩
        have hkT : kk ≤ Lb := by have := Nat.mod_lt cut (show 0 < Lb + 1 by omega); omega
        have k1 : (cut : Int) % ((Lb : Int) + 1) = (kk : Int) := by rw [hkk]; exact (Int.natCast_emod cut (Lb + 1)).symm
        have k2 : (cut : Int).tmod ((Lb : Int) + 1) = (kk : Int) := by rw [Int.tmod_eq_emod_of_nonneg (by omega)]; exact k1
        clear hkk
        generalize w3.drewN q4 = V at *
        obtain ⟨Ae2, ce2, hve, hec, hRe⟩ := own_reads HK4.out.e
        injection hve with hv1 hv2 hv3
        subst hv1 hv3
        rw [endsOf_length] at hRe hec
        have HRE := aside' hRe
        clear hRe hv2
        go_wp2_with fail
        go_loop [14] (fun s => ∃ t : Nat, t ≤ l.length ∧ s = .int .i64 t ∧ Aside (∀ i, i < t → JMath.total (l.take (i + 1)) ≤ kk)) (fun s => l.length - (intOf s).toNat)
        case atStart => exact ⟨0, Nat.zero_le _, rfl, fun i hi => by omega⟩
        case round =>
          obtain ⟨t, ht, rfl, HT⟩ := hrel
          by_cases hlt2 : t < l.length ∧ JMath.total (l.take (t + 1)) ≤ kk
          · obtain ⟨eb, eo, rfl, heb, hes⟩ := HRE.out.plain (by omega)
            have hce := hes t hlt2.1
            rw [endsOf_get l t hlt2.1] at hce
            have HNX := aside' (show ∀ i, i < t + 1 → JMath.total (l.take (i + 1)) ≤ kk from fun i hi => by
              rcases Nat.lt_or_ge i t with h | h
              · exact HT.out i h
              · rw [show i = t by omega]; exact hlt2.2)
            have g2 : decide ((t : Int) < (l.length : Int)) = true := decide_eq_true (by omega)
            have hle := hlt2.2
            have hlt3 := hlt2.1
            generalize JMath.total (l.take (t + 1)) = tt at *
            have g3 : decide ((tt : Int) ≤ (kk : Int)) = true := decide_eq_true (by omega)
            have i0 : (0 : Int) ≤ (t : Int) := by omega
            have i1 : (t : Int) < (l.length : Int) := by omega
            clear hes hlt2
            go_wp2
            go_round
            case rel => exact ⟨t + 1, by omega, by go_num, HNX.out⟩
            case measure => (simp [intOf]; omega)
          · skip
            have hex : t < l.length → kk < JMath.total (l.take (t + 1)) := fun h => by
              rcases Nat.lt_or_ge kk (JMath.total (l.take (t + 1))) with h2 | h2
              · exact h2
              · exact absurd ⟨h, h2⟩ hlt2
            have hlow : JMath.total (l.take t) ≤ kk := by
              rcases Nat.eq_zero_or_pos t with h | h
              · subst h; simp [JMath.total]
              · have := HT.out (t - 1) (by omega)
                rwa [show t - 1 + 1 = t by omega] at this
            have hrec : JMath.recsF (sumF 2) ((JMath.flat (sumF 2) l).take kk) = l.take t := JMath.recsF_cut (sumF 2) l HL.out.1 t kk ht hlow hex (by have := HL.out.2.2.1; omega)
            obtain ⟨Ab3, cb3, hvb, _, hRb3⟩ := own_reads HK4.out.b
            injection hvb with hv1 hv2 hv3
            subst hv1
            rw [HL.out.2.2.2] at hRb3
            have HRd2 := aside' (Read_ok Ab kk cb ((JMath.flat (sumF 2) l).take kk) V (bytes_take (Reads.bytes_flat HL.out.1 HL.out.2.1) kk) (hRb3.take_ kk hkT) (by omega) (by omega))
            rw [hrec] at HRd2
            obtain ⟨T2, hT2⟩ : ∃ T2, T2 = JMath.total (l.take t) := ⟨_, rfl⟩
            rw [← hT2] at HRd2 hlow
            have HT2 := aside' hT2
            have HEX := aside' hex
            have HLO := aside' hlow
            have j1 : (kk : Int) ≤ (cb : Int) := by omega
            have j0 : (0 : Int) ≤ (kk : Int) := by omega
            have j2 : kk ≤ cb := by omega
            have j3 : (t : Int) ≤ (cw : Int) := by omega
            have j4 : (0 : Int) ≤ (t : Int) := by omega
            have j5 : t ≤ cw := by omega
            have hkk9 : kk ≤ 1800000 := by omega
            clear hrec hRb3 hv2 hv3 hT2 hex hlow

            by_cases h4 : t < l.length
            · obtain ⟨eb, eo, hea, heb, hes⟩ := HRE.out.plain (by omega)
              have hce := hes t h4
              rw [endsOf_get l t h4] at hce
              have hgt := HEX.out h4
              subst hea
              have g2 : decide ((t : Int) < (l.length : Int)) = true := decide_eq_true (by omega)
              generalize JMath.total (l.take (t + 1)) = tt at *
              have g3 : decide ((tt : Int) ≤ (kk : Int)) = false := decide_eq_false (by omega)
              have i1 : (t : Int) < (l.length : Int) := by omega
              clear hes hlt2 HEX
              go_wp2_with fail
              refine Calls.mono HRd2.out ?_
              rintro e w5 ⟨out2, rfl, hr5, hb5⟩
              obtain ⟨Ao2, co2, rfl, hco2, hRo2⟩ := hr5.reads (fun y hy => by have := (HL.out.1 y (List.mem_of_mem_take hy)).2.1; omega)
              have hK5 := HK4.out.later hb5
              obtain ⟨Aw3, cw3, hvw, _, hRw3⟩ := hK5.wn.reads hK5.below
              injection hvw with hv1 hv2 hv3
              subst hv1
              have hlt_ : (l.take t).length = t := by rw [List.length_take]; omega
              rw [hlt_] at hRo2 hco2 ⊢
              have HSR2 := aside' (same_records Ao2 Aw t co2 cw (l.take t) w5 hRo2 (hRw3.take t ht))
              have HK5 := aside' hK5
              have HENDS := aside' (show ∀ (h : 0 < t), w5.cell? ⟨eb, eo + (t - 1), none⟩ = some (.int .i64 (T2 : Int)) from fun h => by
                obtain ⟨Ae3, ce3, hve, _, hRe3⟩ := own_reads hK5.e
                injection hve with hv1 hv2 hv3
                subst hv1
                rw [endsOf_length] at hRe3
                obtain ⟨eb2, eo2, he1, he2, he3⟩ := hRe3.plain (by omega)
                cases he1
                rw [he3 (t - 1) (by omega), endsOf_get l (t - 1) (by omega), show t - 1 + 1 = t by omega, HT2.out])
              clear hr5 hb5 hRo2 hRw3 hK5 hlt_ hv2 hv3 HRd2
              rcases Nat.eq_zero_or_pos t with ht0 | ht0
              · have hT0 : T2 = 0 := by rw [HT2.out, ht0]; simp [JMath.total]
                clear HENDS
                subst ht0
                subst hT0
                go_wp2_with fail
                refine Calls.mono HSR2.out ?_
                rintro e w6 ⟨rfl, q6, rfl⟩
                go_wp2
                go_ret
                exact ⟨rfl, below_drewN HK5.out.below q6⟩
              · have hec2 := HENDS.out ht0
                have m0 : decide ((0 : Int) < (t : Int)) = true := decide_eq_true (by omega)
                have m1 : (t : Int) - 1 = ((t - 1 : Nat) : Int) := by omega
                have m2 : (0 : Int) ≤ ((t - 1 : Nat) : Int) := by omega
                have m3 : ((t - 1 : Nat) : Int) < (l.length : Int) := by omega
                have m4 : (1 : Int) ≤ (t : Int) := by omega
                have hec3 : w5.cell? ⟨eb, eo + (t - 1), none⟩ = some (.int .i64 (T2 : Int)) := hec2
                have hTe : ((T2 : Int) == (T2 : Int)) = true := by simp
                clear HENDS hec2
                go_wp2_with fail
                refine Calls.mono HSR2.out ?_
                rintro e w6 ⟨rfl, q6, rfl⟩
                go_wp2
                go_ret
                exact ⟨rfl, below_drewN HK5.out.below q6⟩

            · have g2 : decide ((t : Int) < (l.length : Int)) = false := decide_eq_false (by omega)
              clear hlt2 HEX
              go_wp2_with fail
              refine Calls.mono HRd2.out ?_
              rintro e w5 ⟨out2, rfl, hr5, hb5⟩
              obtain ⟨Ao2, co2, rfl, hco2, hRo2⟩ := hr5.reads (fun y hy => by have := (HL.out.1 y (List.mem_of_mem_take hy)).2.1; omega)
              have hK5 := HK4.out.later hb5
              obtain ⟨Aw3, cw3, hvw, _, hRw3⟩ := hK5.wn.reads hK5.below
              injection hvw with hv1 hv2 hv3
              subst hv1
              have hlt_ : (l.take t).length = t := by rw [List.length_take]; omega
              rw [hlt_] at hRo2 hco2 ⊢
              have HSR2 := aside' (same_records Ao2 Aw t co2 cw (l.take t) w5 hRo2 (hRw3.take t ht))
              have HK5 := aside' hK5
              have HENDS := aside' (show ∀ (h : 0 < t), ∃ eb eo, Ae = some ⟨eb, eo, none⟩ ∧ w5.cell? ⟨eb, eo + (t - 1), none⟩ = some (.int .i64 (T2 : Int)) from fun h => by
                obtain ⟨Ae3, ce3, hve, _, hRe3⟩ := own_reads hK5.e
                injection hve with hv1 hv2 hv3
                subst hv1
                rw [endsOf_length] at hRe3
                obtain ⟨eb, eo, he1, he2, he3⟩ := hRe3.plain (by omega)
                refine ⟨eb, eo, he1, ?_⟩
                rw [he3 (t - 1) (by omega), endsOf_get l (t - 1) (by omega), show t - 1 + 1 = t by omega, HT2.out])
              clear hr5 hb5 hRo2 hRw3 hK5 hlt_ hv2 hv3 HRd2
              rcases Nat.eq_zero_or_pos t with ht0 | ht0
              · have hT0 : T2 = 0 := by rw [HT2.out, ht0]; simp [JMath.total]
                clear HENDS
                subst ht0
                subst hT0
                go_wp2_with fail
                refine Calls.mono HSR2.out ?_
                rintro e w6 ⟨rfl, q6, rfl⟩
                go_wp2
                go_ret
                exact ⟨rfl, below_drewN HK5.out.below q6⟩
              · obtain ⟨eb, eo, hea, hec2⟩ := HENDS.out ht0
                subst hea
                have m0 : decide ((0 : Int) < (t : Int)) = true := decide_eq_true (by omega)
                have m1 : (t : Int) - 1 = ((t - 1 : Nat) : Int) := by omega
                have m2 : (0 : Int) ≤ ((t - 1 : Nat) : Int) := by omega
                have m3 : ((t - 1 : Nat) : Int) < (l.length : Int) := by omega
                have m4 : (1 : Int) ≤ (t : Int) := by omega
                have hec3 : w5.cell? ⟨eb, eo + (t - 1), none⟩ = some (.int .i64 (T2 : Int)) := hec2
                have hTe : ((T2 : Int) == (T2 : Int)) = true := by simp
                clear HENDS hec2
                go_wp2_with fail
                refine Calls.mono HSR2.out ?_
                rintro e w6 ⟨rfl, q6, rfl⟩
                go_wp2
                go_ret
                exact ⟨rfl, below_drewN HK5.out.below q6⟩
end Go.Proofs.Ytkngnoimjpeolaa
