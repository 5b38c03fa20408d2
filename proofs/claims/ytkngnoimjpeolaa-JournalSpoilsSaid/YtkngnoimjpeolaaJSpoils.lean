/-
  The walk of the law JournalSpoils.
-/
import Derived.Test.YtkngnoimjpeolaaJSpoils0
import Derived.Deep.DeepCutAuto
set_option linter.unusedVariables false
set_option linter.unusedSimpArgs false
namespace Go.Proofs.Ytkngnoimjpeolaa
open Go.RowKit SumsMath

set_option maxRecDepth 100000 in
set_option maxHeartbeats 6400000 in
theorem spoils_law (A : Option Addr) (n c : Nat) (rows : List (List Int)) (wh at_ ch : Nat) (hwh : wh ≤ 65535) (hat_ : at_ ≤ 4294967295) (hch : ch ≤ 255) (w : World) (hR : ReadsRows w A n rows) (hby : ∀ j, j < n → Bytes (rows.getD j [])) (h24 : n * 24 ≤ 140737488351232) :
    Calls Try.prog 5 #[.slice A n c, .agg #[.int .u16 (wh : Int), .int .u32 (at_ : Int), .int .u8 (ch : Int)]] w fun e w' => e = .returned (.bool true) ∧ Below w.heap.size w w' := by
  have hl := hR.1
  have HR0 := aside' (And.intro hR (And.intro (show ∀ j, j < rows.length → Bytes (rows.getD j []) from fun j hj => hby j (by omega)) hl))
  clear hR hby hl
  obtain ⟨wB, hwB⟩ : ∃ wB, wB = w.alloc (.cells #[.int .u16 (wh : Int), .int .u32 (at_ : Int), .int .u8 (ch : Int)] 49) := ⟨_, rfl⟩
  have hBw : Below w.heap.size w wB := hwB ▸ (Below.refl _ _).alloc (Nat.le_refl _) _
  have hx0 : wB.heap[w.heap.size]? = some (.cells #[.int .u16 (wh : Int), .int .u32 (at_ : Int), .int .u8 (ch : Int)] 49 (0, 0)) := hwB ▸ heap_alloc_new w _
  have hg0 : w.heap.size < wB.heap.size := by rw [hwB]; simp
  have HX := aside' (And.intro (cellOf hx0 0) (And.intro (cellOf hx0 1) (cellOf hx0 2)))
  simp only [List.getElem?_toArray, List.getElem?_cons_zero, List.getElem?_cons_succ] at HX
  have HR := aside' (And.intro (HR0.out.1.below hBw) HR0.out.2)
  have HBw := aside' hBw
  have HAL : Calls Try.prog 7 #[] (w.alloc (.cells #[.int .u16 (wh : Int), .int .u32 (at_ : Int), .int .u8 (ch : Int)] 49)) (fun e w' => e = .returned (.bool true) ∧ Below wB.heap.size wB w') := by rw [← hwB]; exact alive_any wB
  have HAL := aside' HAL
  clear HR0 hBw hx0 hwB
  go_enter Try.func5, Try.ntmps5
  go_wp2_with fail
  refine Calls.mono HAL.out ?_
  rintro e w1 ⟨rfl, hb1⟩
  have HG := aside' (great_any A n c rows w1 (HR.out.1.below hb1) (by omega))
  have HB1 := aside' hb1
  have hc0 := (hb1.cell (p := ⟨w.heap.size, 0, none⟩) hg0).trans HX.out.1
  have hc1 := (hb1.cell (p := ⟨w.heap.size, 1, none⟩) hg0).trans HX.out.2.1
  have hc2 := (hb1.cell (p := ⟨w.heap.size, 2, none⟩) hg0).trans HX.out.2.2
  clear hb1 HAL hc0 hc1
  have hend : ∀ {w2 : World}, Below wB.heap.size wB w2 → Below w.heap.size w w2 := fun h => HBw.out.trans (h.mono (by omega))
  have HEND := aside' (fun (w2 : World) (h : Below wB.heap.size wB w2) => (hend h : Below w.heap.size w w2))
  clear hend
  go_wp2_with fail
  refine Calls.mono HG.out ?_
  rintro e w2 ⟨g, rfl, hw2, hg⟩
  have hw2 := hw2.symm
  subst hw2
  cases g with
  | true =>
    clear hg HG
    go_wp2_with fail
    refine Calls.mono (alive_any w1) ?_
    rintro e w3 ⟨rfl, hb3⟩
    go_wp2
    go_ret
    exact ⟨rfl, HEND.out _ (HB1.out.trans (hb3.mono HB1.out.size))⟩
  | false =>
    have HS := aside' (hg rfl)
    clear hg HG
    by_cases hz : ch = 0
    · subst hz
      go_wp2_with fail
      refine Calls.mono (alive_any w1) ?_
      rintro e w3 ⟨rfl, hb3⟩
      go_wp2
      go_ret
      exact ⟨rfl, HEND.out _ (HB1.out.trans (hb3.mono HB1.out.size))⟩
    · have ez : ((ch : Int) == 0) = false := by rw [beq_eq_false_iff_ne]; omega
      have HBK := aside' (BK.start HB1.out)
      have hn2 : n ≤ 200000 := by have := HS.out; omega
      go_wp2_with fail
      clear hc2 ez
      go_loopw [5, 6, 7, 8] (fun vb vw ve i wr => ∃ k : Nat, k ≤ n ∧ i = .int .i64 k ∧ Aside (BK wB wr vb vw ve (JMath.flat (sumF 2) (gs rows k)) (gs rows k) (begsOf (gs rows k)))) (fun _ _ _ i _ => n - (intOf i).toNat)
      case atStart => exact ⟨0, Nat.zero_le _, rfl, HBK.out⟩
      case round =>
        obtain ⟨k, hk, rfl, HI⟩ := hrel
        have htl := gs_total rows k
        have hgl := gs_len rows k
        have hfl : (JMath.flat (sumF 2) (gs rows k)).length ≤ 1800000 := by rw [JMath.flat_length]; have h1 := HS.out; have h2 := HR.out.2.2; omega
        clear htl
        obtain ⟨Ab, Lb, cb, rfl, HLb⟩ := own_form HI.out.b
        obtain ⟨Ae, Le, ce, rfl, HLe⟩ := own_form HI.out.e
        obtain ⟨vws, hvw1, hvw2⟩ := HI.out.wn
        obtain ⟨Aw, Lw, cw, rfl, HLw⟩ := own_form hvw1
        clear hvw1 hvw2
        by_cases hlt : k < n
        · have g1 : decide ((k : Int) < (n : Int)) = true := decide_eq_true (by omega)
          obtain ⟨xb, xo, rfl, hxb, hxs⟩ := HR.out.1.2.2 (by omega)
          obtain ⟨B, d, hc0, hd1, hd2, hrx⟩ := hxs k hlt
          have hcx := (HI.out.below.cell (p := ⟨xb, xo + k, none⟩) hxb).trans hc0
          have hrx' := hrx.below HI.out.below
          obtain ⟨x, hxe⟩ : ∃ x, x = rows.getD k [] := ⟨_, rfl⟩
          rw [← hxe] at hcx hd1 hd2 hrx hrx'
          have HX2 := aside' (And.intro hxe (And.intro hrx hrx'))
          have HC0 := aside' (hxe ▸ hc0)
          have HBX := aside' (show Bytes x from hxe ▸ HR.out.2.1 k (by rw [HR.out.2.2]; exact hlt))
          have i0 : (0 : Int) ≤ (k : Int) := by omega
          have i1 : (k : Int) < (n : Int) := by omega
          clear hxs hc0 hxe hrx hrx'
          by_cases hgd : 1 ≤ x.length ∧ x.length ≤ 65537
          · have hyes : gs rows (k + 1) = gs rows k ++ [x] := by rw [HX2.out.1]; exact gs_yes rows k (by rw [HR.out.2.2]; exact hlt) (by rw [← HX2.out.1]; exact decide_eq_true hgd)
            have HY := aside' hyes
            have HFR := aside' (Frame_ok B x.length d x wr HBX.out HX2.out.2.2 hgd.1 hgd.2)
            have hflx : (frm x).length = 8 + x.length := JMath.frame_length (sumF 2) x
            have HFX := aside' hflx
            have hx1 := hgd.1
            have hx2 := hgd.2
            obtain ⟨l, hle⟩ : ∃ l, l = gs rows k := ⟨_, rfl⟩
            rw [← hle] at HI HY hgl hfl HLb HLe HLw
            clear hyes hgd hflx hle
            have hLb := HLb.out
            have hLw := HLw.out
            have hLe := HLe.out
            subst hLb
            subst hLw
            subst hLe
            go_wp2_with fail
            refine Calls.mono HFR.out ?_
            rintro e w3 ⟨q, rfl, hq1, hq2, hb3⟩
            have HQ1 := aside' (And.intro hq1 hq2)
            have HK3 := aside' (HI.out.later hb3)
            have HKA := aside' ((HI.out.later hb3).alloc (.cells #[.int .i64 ((JMath.flat (sumF 2) l).length : Int)] 3))
            have hbsA := HKA.out.below.size
            clear hq1 hq2 hb3 HFR hcx
            simp only [World.size_alloc] at hbsA
            go_upto_region 12 with (at_builtin; refine append_row wB.heap.size rfl _ _ 27 3 .i64 8 rfl Try.underlying27 infoI (by omega) (.slice Ae (begsOf l).length ce) (begsOf l) [_] _ 1 1 rfl rfl HKA.out.e (reads_one w3 .i64 3 _) HKA.out.below.size (by rw [begsOf_length]; omega) ?_; intro v4 w4 hown4 hg4 hat4; have hqq : w4.heap[q]? = some (.cells (nums .u8 (frm x)).toArray 5 (0, 0)) := HI.out.fresh (.inr rfl) HQ1.out.1 (by have := (Array.getElem?_eq_some_iff.1 HQ1.out.2).1; simp only [World.size_alloc]; omega) hg4 ((((Below.refl w3.heap.size w3).alloc (Nat.le_refl _) _).block q (Array.getElem?_eq_some_iff.1 HQ1.out.2).1).trans HQ1.out.2); have HQ := aside' (reads_block (k := .u8) (xs := frm x) hqq rfl HFX.out (by omega)); have HK4 := aside' (HKA.out.appE hown4 hg4 hat4); obtain ⟨g4, c4, rfl, _, _, _, _⟩ := own_some hown4 (by rw [List.length_append]; simp); have hbs4 := HK4.out.below.size; clear hown4 hg4 hat4 hqq)
            go_upto_region 13 with (at_builtin; refine append_row wB.heap.size rfl _ _ 26 5 .u8 1 rfl Try.underlying26 infoU8 (by omega) (.slice Ab (JMath.flat (sumF 2) l).length cb) (JMath.flat (sumF 2) l) (frm x) _ (8 + x.length) (8 + x.length) rfl rfl HK4.out.b HQ.out hbs4 (by omega) ?_; intro v5 w5 hown5 hg5 hat5; have hK5 := HK4.out.appB hown5 hg5 hat5; obtain ⟨g5, c5, rfl, _, _, hgc5, _⟩ := own_some hown5 (by rw [List.length_append]; have := HFX.out; omega); have hcx5 : w5.cell? ⟨xb, xo + k, none⟩ = some (.slice B x.length d) := (hK5.below.cell (p := ⟨xb, xo + k, none⟩) hxb).trans HC0.out; obtain ⟨vws, hvw1, hvw2⟩ := hK5.wn; have HW5 := aside' (hvw1.alloc (.cells #[.slice B x.length d] 26)); have HW2 := aside' (And.intro hvw2 (own_len hvw1)); have HC5 := aside' (Cells.lit w5 26 #[.slice B x.length d] 1 1 rfl (by intro u hu; simp at hu; subst hu; rfl)); have HK5 := aside' (hK5.alloc (.cells #[.slice B x.length d] 26)); have hbs5 : wB.heap.size ≤ (w5.alloc (.cells #[.slice B x.length d] 26)).heap.size := HK5.out.below.size; clear hown5 hg5 hat5 hK5 hgc5 hvw1 hvw2)
            go_wp2_with (at_builtin; refine append_cells wB.heap.size rfl _ _ 22 26 (.slice none 0 0) 1 24 rfl Try.underlying22 infoSB rfl (by omega) (by omega) (.slice Aw l.length cw) l.length vws [.slice B x.length d] _ 1 1 rfl rfl HW5.out HC5.out hbs5 (by omega) ?_; intro v6 w6 hown6 hg6 hat6; have hW6 := WantAt.push (w := wB) (W' := w6) (base := wB.heap.size) (v' := v6) (rows := l) (x := x) (B := B) (d := d) (vs := vws) HW2.out.1 HW2.out.2 hown6 hd1 hd2 HX2.out.2.1; have HK6 := aside' (HK5.out.appW hW6 hg6 hat6); obtain ⟨g6, c6, rfl, _, _, _, _⟩ := own_some hown6 (by omega); clear hown6 hg6 hat6 hW6)
            go_roundw
            case rel =>
              refine ⟨k + 1, by omega, by go_num, ?_⟩
              have h := HK6.out
              simp only [List.length_append, List.length_singleton] at h
              rw [HY.out, flat_push, begsOf_push, ← JMath.flat_length (sumF 2) l]
              exact aside' h
            case measure => (simp [intOf]; omega)
          · have HNO := aside' (Frame_no B x.length d (by omega) (by omega) wr)
            have hno : gs rows (k + 1) = gs rows k := gs_no rows k (by rw [HR.out.2.2]; exact hlt) (by rw [← HX2.out.1]; exact decide_eq_false hgd)
            have HN := aside' (show BK wB wr _ _ _ (JMath.flat (sumF 2) (gs rows (k + 1))) (gs rows (k + 1)) (begsOf (gs rows (k + 1))) from hno ▸ HI.out)
            clear hno HI
            go_wp2_with fail
            refine Calls.mono HNO.out ?_
            rintro e w3 ⟨rfl, hw3⟩
            have hw3 := hw3.symm
            subst hw3
            go_wp2
            go_roundw
            case rel => exact ⟨k + 1, by omega, by go_num, HN.out⟩
            case measure => (simp [intOf]; omega)
        · obtain rfl : k = n := by omega
          have g1 : decide ((k : Int) < (k : Int)) = false := decide_eq_false (by omega)
          have htl := gs_total rows k
          have hgood := gs_mem rows k HR.out.2.1
          have hbyt := gs_bytes rows k HR.out.2.1
          have hlr := HR.out.2.2
          have hS := HS.out
          generalize gs rows k = l at *
          obtain ⟨T, hT⟩ : ∃ T, T = JMath.total l := ⟨_, rfl⟩
          have hft : (JMath.flat (sumF 2) l).length = T := by rw [JMath.flat_length, hT]
          have hT9 : T ≤ 1800000 := by omega
          rw [hft] at HLb
          rw [begsOf_length] at HLe
          have hLb := HLb.out
          have hLe := HLe.out
          have hLw := HLw.out
          subst hLb
          subst hLe
          subst hLw
          have HL := aside' (And.intro hgood (And.intro hbyt (And.intro hT hft)))
          clear hgood hbyt htl hT hft hlr hS HS hfl
          by_cases hl0 : l.length = 0
          · have HEN := aside' HI.out.below
            clear HI
            generalize l.length = ll at *
            subst hl0
            go_wp2
            go_ret
            exact ⟨rfl, HEND.out _ HEN.out⟩
          · have el : ((l.length : Int) == 0) = false := by rw [beq_eq_false_iff_ne]; omega
            obtain ⟨kk, hkk⟩ : ∃ kk, kk = wh % l.length := ⟨_, rfl⟩
            have hk1 : kk < l.length := by rw [hkk]; exact Nat.mod_lt _ (by omega)
            have k1 : (wh : Int) % (l.length : Int) = (kk : Int) := by rw [hkk]; exact (Int.natCast_emod wh _).symm
            have k2 : (wh : Int).tmod (l.length : Int) = (kk : Int) := by rw [Int.tmod_eq_emod_of_nonneg (by omega)]; exact k1
            clear hkk
            obtain ⟨Aw2, cw2, hvw, hwc, hRw⟩ := HI.out.wn.reads HI.out.below
            injection hvw with hv1 hv2 hv3
            subst hv1 hv3
            obtain ⟨wb, wo, rfl, hwb, hws⟩ := hRw.2.2 (by omega)
            obtain ⟨B, d, hcw, hd1, hd2, _⟩ := hws kk hk1
            obtain ⟨Ae2, ce2, hve, hec, hRe⟩ := own_reads HI.out.e
            injection hve with hv4 hv5 hv6
            subst hv4 hv6
            rw [begsOf_length] at hRe hec
            obtain ⟨eb, eo, rfl, heb, hes⟩ := hRe.plain (by omega)
            have hce := hes kk hk1
            rw [begsOf_get l kk hk1] at hce
            have hta := total_at l kk hk1
            rw [← HL.out.2.2.1] at hta
            have hmem : l.getD kk [] ∈ l := by rw [List.getD_eq_getElem?_getD, List.getElem?_eq_getElem hk1]; exact List.getElem_mem hk1
            have hgx := HL.out.1 _ hmem
            obtain ⟨m, hm⟩ : ∃ m, m = (l.getD kk []).length := ⟨_, rfl⟩
            have hm1 : 1 ≤ m ∧ m ≤ 65537 := by rw [hm]; exact ⟨hgx.1, hgx.2.1⟩
            rw [← hm] at hcw hd1 hd2 hta
            obtain ⟨T1, hT1⟩ : ∃ T1, T1 = JMath.total (l.take kk) := ⟨_, rfl⟩
            rw [← hT1] at hce hta
            obtain ⟨a, ha⟩ : ∃ a, a = at_ % (4 + m) := ⟨_, rfl⟩
            have ha1 : a < 4 + m := by rw [ha]; exact Nat.mod_lt _ (by omega)
            have a1 : (at_ : Int) % (4 + (m : Int)) = (a : Int) := by rw [ha]; exact (Int.natCast_emod at_ _).symm
            have a2 : (at_ : Int).tmod (4 + (m : Int)) = (a : Int) := by rw [Int.tmod_eq_emod_of_nonneg (by omega)]; exact a1
            clear ha hv2 hv5
            obtain ⟨gb, cb2, hvb, hgb0, hgb1, hgbc, hgbm⟩ := own_some HI.out.b (by rw [HL.out.2.2.2]; omega)
            injection hvb with hb1 hb2 hb3
            subst hb1 hb3
            obtain ⟨p, hp⟩ : ∃ p, p = T1 + (4 + a) := ⟨_, rfl⟩
            have hpT : p < Lb := by omega
            have p1 : (T1 : Int) + 4 + (a : Int) = (p : Int) := by omega
            have HP := aside' (And.intro hm (And.intro hT1 hp))
            have hfb : Bytes (JMath.flat (sumF 2) l) := Reads.bytes_flat HL.out.1 HL.out.2.1
            obtain ⟨y, hy⟩ : ∃ y, y = (JMath.flat (sumF 2) l).getD p 0 := ⟨_, rfl⟩
            have hyb : 0 ≤ y ∧ y ≤ 255 := by rw [hy]; exact hfb p
            have hX := X_u8 y (ch : Int) hyb ⟨by omega, by omega⟩
            have hXb := X_8 y (ch : Int) hyb ⟨by omega, by omega⟩
            have hrec := recs_spoil l kk hk1 a (ch : Int) (by rw [← hm]; exact ha1) ⟨by omega, by omega⟩ HL.out.1 HL.out.2.1
            have hob := HI.out.b
            rw [HL.out.2.2.2] at hob
            have hcb := own_at hob p hpT
            rw [← hy] at hcb
            have hx0 := (HI.out.below.cell (p := ⟨w.heap.size, 0, none⟩) hg0).trans HX.out.1
            have hx1 := (HI.out.below.cell (p := ⟨w.heap.size, 1, none⟩) hg0).trans HX.out.2.1
            have hx2 := (HI.out.below.cell (p := ⟨w.heap.size, 2, none⟩) hg0).trans HX.out.2.2
            have HYP := aside' (And.intro hy hfb)
            obtain ⟨z, hz2⟩ : ∃ z, z = X y (ch : Int) := ⟨_, rfl⟩
            rw [← hz2] at hX hXb
            rw [← hT1, ← hp, ← hy, ← hz2] at hrec
            have hbs : Bytes ((JMath.flat (sumF 2) l).set p z) := fun j => by
              rw [getD_set _ _ _ _ (by rw [HL.out.2.2.2]; exact hpT)]
              split
              · exact hXb
              · exact hfb j
            have HREC := aside' (And.intro hrec (And.intro hbs hT1))
            have HK2 := aside' (HI.out.put (p := p) (y := z) HL.out.2.2.2).drew.drew
            have hfz : wr.frozen? ⟨gb, p, none⟩ = false := hob.frozenAt p
            clear hrec hbs HYP hm hT1 hp hy hfb hob hz2 hgx hmem hes hRe hws HI hb2
            have j0 : (0 : Int) ≤ (kk : Int) := by omega
            have j1 : (kk : Int) < (l.length : Int) := by omega
            have j2 : (0 : Int) ≤ (p : Int) := by omega
            have j3 : (p : Int) < (Lb : Int) := by omega
            go_wp2_with fail
            have hce' : wr.drew.cell? ⟨eb, eo + kk, none⟩ = some (.int .i64 (T1 : Int)) := hce
            have hx1' : wr.drew.cell? ⟨w.heap.size, 1, none⟩ = some (.int .u32 (at_ : Int)) := hx1
            go_region
            have hcb' : wr.drew.drew.cell? ⟨gb, p, none⟩ = some (.int .u8 y) := hcb
            have hfz' : wr.drew.drew.frozen? ⟨gb, p, none⟩ = false := hfz
            have hx2' : wr.drew.drew.cell? ⟨w.heap.size, 2, none⟩ = some (.int .u8 (ch : Int)) := hx2
            have hcb'' : wr.drew.cell? ⟨gb, p, none⟩ = some (.int .u8 y) := hcb
            have hfz'' : wr.drew.frozen? ⟨gb, p, none⟩ = false := hfz
            have hx2'' : wr.drew.cell? ⟨w.heap.size, 2, none⟩ = some (.int .u8 (ch : Int)) := hx2
            clear hce' hx1' hce hx1 hx0 hcw
            go_wp2_with fail
            go_region
            rw [HL.out.2.2.2] at hgbc
            generalize (wr.setCell ⟨gb, p, none⟩ (.int .u8 z)).drew.drew = W2 at *
            clear hcb' hfz' hx2' hcb'' hfz'' hx2'' hcb hfz hx2
            have hob2 := HK2.out.b
            have hls : ((JMath.flat (sumF 2) l).set p z).length = Lb := by rw [List.length_set]; exact HL.out.2.2.2
            rw [hls] at hob2
            have HRd := aside' (Read_ok (some ⟨gb, 0, none⟩) Lb cb ((JMath.flat (sumF 2) l).set p z) W2 HREC.out.2.1 (own_rd hob2) (by omega) hgbc)
            rw [HREC.out.1, ← HREC.out.2.2] at HRd
            clear hob2 hls
            go_wp2_with fail
            refine Calls.mono HRd.out ?_
            rintro e w3 ⟨out, rfl, hr3, hb3⟩
            obtain ⟨Ao, co, rfl, hco, hRo⟩ := hr3.reads (fun y hy => by have := (HL.out.1 y (List.mem_of_mem_take hy)).2.1; omega)
            have hK3 := HK2.out.later hb3
            obtain ⟨Aw3, cw3, hvw3, _, hRw3⟩ := hK3.wn.reads hK3.below
            injection hvw3 with hv1 hv2 hv3
            subst hv1 hv3
            have hlt_ : (l.take kk).length = kk := by rw [List.length_take]; omega
            rw [hlt_] at hRo hco ⊢
            have HSR := aside' (same_records Ao (some ⟨wb, wo, none⟩) kk co cw (l.take kk) w3 hRo (hRw3.take kk (by omega)))
            obtain ⟨Ae3, ce3, hve3, _, hRe3⟩ := own_reads hK3.e
            injection hve3 with hv4 hv5 hv6
            subst hv4 hv6
            rw [begsOf_length] at hRe3
            obtain ⟨eb3, eo3, he3, _, hes3⟩ := hRe3.plain (by omega)
            cases he3
            have hce3 := hes3 kk hk1
            rw [begsOf_get l kk hk1, ← HREC.out.2.2] at hce3
            have HK3 := aside' hK3.below
            have hTe : ((T1 : Int) == (T1 : Int)) = true := by simp
            have j4 : (kk : Int) ≤ (cw : Int) := by omega
            have j5 : kk ≤ cw := by omega
            clear hr3 hb3 hRo hRw3 hK3 hlt_ hv2 hv5 HRd hRe3 hes3
            go_wp2_with fail
            refine Calls.mono HSR.out ?_
            rintro e w4 ⟨rfl, q4, rfl⟩
            go_wp2
            go_ret
            exact ⟨rfl, HEND.out _ (below_drewN HK3.out q4)⟩
end Go.Proofs.Ytkngnoimjpeolaa
