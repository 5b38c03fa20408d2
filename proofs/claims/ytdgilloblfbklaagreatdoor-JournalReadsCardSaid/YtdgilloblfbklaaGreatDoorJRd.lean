/-
  The walk of the law JournalReads.
-/
import Derived.Test.YtdgilloblfbklaaGreatDoorB2R
import Derived.Test.YtdgilloblfbklaaGreatDoorR4
import Derived.Test.YtdgilloblfbklaaGreatDoorJSame
import Derived.Test.YtdgilloblfbklaaGreatDoorTwin
import Derived.Deep.DeepCutAuto
set_option linter.unusedVariables false
set_option linter.unusedSimpArgs false
namespace Go.Proofs.YtdgilloblfbklaaGreatDoor
open Go.RowKit SumsMath

theorem recs_short (bs : List Int) : ∀ x ∈ JMath.recsF (sumF 2) bs, x.length ≤ 65537 := by
  intro x hx
  rw [← segs_rows] at hx
  obtain ⟨s, hs, rfl⟩ := List.mem_map.1 hx
  have h := JMath.segs_in (cr := sumF 2) bs (bs.length + 1) 0 s (by simpa using hs)
  rw [segRow_length bs s h.2.1]
  exact h.2.2.2
set_option maxRecDepth 100000 in
set_option maxHeartbeats 6400000 in
theorem reads_law (A : Option Addr) (n c : Nat) (bs : List Int) (w : World) (hR : Reads w .u8 A n bs) (hx : Bytes bs) (hnc : n ≤ c) (hc9 : c ≤ 9223372036854775807) :
    Calls Tryz.prog 3 #[.slice A n c] w fun e w' => e = .returned (.bool true) ∧ Below w.heap.size w w' := by
  have HR := aside' (And.intro hR (And.intro hx hnc))
  have hn := hR.2.1
  clear hR hx hnc
  by_cases h1 : 300000 < n
  · have g1 : decide (300000 < (n : Int)) = true := decide_eq_true (by omega)
    go_enter Tryz.func3, Tryz.ntmps3
    go_wp2
    go_ret
    exact ⟨rfl, Below.refl _ _⟩
  · have g1 : decide (300000 < (n : Int)) = false := decide_eq_false (by omega)
    have HT := aside' (twin_any A n c bs w HR.out.1 (by omega))
    go_enter Tryz.func3, Tryz.ntmps3
    go_wp2_with fail
    refine Calls.mono HT.out ?_
    rintro e w1 ⟨g, kt, rfl, hg1, hg2, htw, hb1, hown⟩
    have hkt := htw.1
    have hkt2 := htw.2.2.2
    have HR1 := aside' (Read_ok (some ⟨g, 0, none⟩) n kt bs w1 HR.out.2.1 htw.2.1 (by omega) (by omega))
    have H1 := aside' (And.intro hg1 (And.intro hg2 (And.intro htw (And.intro hb1 hown))))
    clear HT hg1 hg2 htw hb1 hown
    go_wp2_with fail
    refine Calls.mono HR1.out ?_
    rintro e w2 ⟨outx, rfl, hxr, hb2⟩
    have HR2 := aside' (Read_ok (some ⟨g, 0, none⟩) n kt bs w2 HR.out.2.1 (H1.out.2.2.1.below H1.out.2.1 hb2).2.1 (by omega) (by omega))
    have H2 := aside' (And.intro hxr hb2)
    clear HR1 hxr hb2
    go_wp2_with fail
    refine Calls.mono HR2.out ?_
    rintro e w3 ⟨outy, rfl, hyr, hb3⟩
    have hb13 := H2.out.2.trans (hb3.mono H2.out.2.size)
    have hb03 := H1.out.2.2.2.1.trans (hb13.mono H1.out.2.2.2.1.size)
    have HR3 := aside' (RRead_ok A n c bs w3 HR.out.2.1 (HR.out.1.below hb03) (by omega) HR.out.2.2 hc9)
    have H3 := aside' (And.intro hyr hb3)
    clear HR2 hyr hb3 hb13 hb03
    go_wp2_with fail
    refine Calls.mono HR3.out ?_
    rintro e w4 ⟨outw, rfl, hwr, hb4⟩
    have hsh := recs_short bs
    have e0 : ((JMath.total (JMath.recsF (sumF 2) bs) : Int) != (JMath.total (JMath.recsF (sumF 2) bs) : Int)) = false := by simp
    generalize (JMath.total (JMath.recsF (sumF 2) bs) : Int) = tt at *
    generalize JMath.recsF (sumF 2) bs = rows at *
    obtain ⟨vx, hvx⟩ := H2.out.1
    obtain ⟨vy, hvy⟩ := H3.out.1
    have hs2 := H2.out.2.size
    have hs3 := H3.out.2.size
    have hs4 := hb4.size
    have hb14 : Below w1.heap.size w1 w4 := (H2.out.2.trans (H3.out.2.mono hs2)).trans (hb4.mono (by omega))
    have hb24 : Below w2.heap.size w2 w4 := H3.out.2.trans (hb4.mono hs3)
    have hb04 := H1.out.2.2.2.1.trans (hb14.mono H1.out.2.2.2.1.size)
    have hx4 : RowsV w4 w1.heap.size outx rows vx := hvx.foot (Foot.ofBelow hb24 (fun _ => False)) (fun _ _ h => h)
    have hy4 : RowsV w4 w2.heap.size outy rows vy := hvy.foot (Foot.ofBelow hb4 (fun _ => False)) (fun _ _ h => h)
    have hxb := hvx.rb
    have hyb := hvy.rb
    have hsh2 : ∀ x ∈ rows, x.length ≤ 140737488351232 := fun x hx => by have := hsh x hx; omega
    obtain ⟨Ax, cx, rfl, hcx, hrx⟩ := RowsAt.reads ⟨vx, hx4⟩ hsh2
    obtain ⟨Ay, cy, rfl, hcy, hry⟩ := RowsAt.reads ⟨vy, hy4⟩ hsh2
    obtain ⟨Aw, cw, rfl, hcw, hrw⟩ := RowsAt.reads hwr hsh2
    have HS1 := aside' (same_records Ax Aw rows.length cx cw rows w4 hrx hrw)
    have H4 : Aside ((RowsV w4 w1.heap.size (.slice Ax rows.length cx) rows vx ∧ RowsV w4 w2.heap.size (.slice Ay rows.length cy) rows vy) ∧ (ReadsRows w4 Ay rows.length rows ∧ ReadsRows w4 Aw rows.length rows) ∧ (TwinAt w4 g kt n bs ∧ w4.ownsRow w.heap.size 5 1 (.slice (some ⟨g, 0, none⟩) n kt) n (nums .u8 bs)) ∧ Below w.heap.size w w4 ∧ ((∀ q, RB vx (.slice Ax rows.length cx) q → w1.heap.size ≤ q ∧ q < w2.heap.size) ∧ (∀ q, RB vy (.slice Ay rows.length cy) q → w2.heap.size ≤ q ∧ q < w3.heap.size)) ∧ (g < w1.heap.size ∧ w1.heap.size ≤ w2.heap.size ∧ w2.heap.size ≤ w3.heap.size ∧ w3.heap.size ≤ w4.heap.size ∧ w.heap.size ≤ w1.heap.size) ∧ ∀ j, j < rows.length → (rows.getD j []).length ≤ 140737488355200) :=
      aside' ⟨⟨hx4, hy4⟩, ⟨hry, hrw⟩, ⟨H1.out.2.2.1.below H1.out.2.1 hb14, own_keep H1.out.2.2.2.2 hb14⟩, hb04, ⟨hxb, hyb⟩, ⟨H1.out.2.1, hs2, hs3, hs4, H1.out.2.2.2.1.size⟩, fun j hj => by
        rw [List.getD_eq_getElem?_getD, List.getElem?_eq_getElem hj]
        have := hsh _ (List.getElem_mem hj)
        simp only [Option.getD_some]
        omega⟩
    have hnr := hry.2.1
    clear hvx hvy hs2 hs3 hs4 hb14 hb24 hb04 hx4 hy4 hxb hyb hrx hry hrw hwr hb4 hsh hsh2 H1 H2 H3 HR3 hcx hcy hcw
    go_wp2_with fail
    refine Calls.mono HS1.out ?_
    rintro e w5 ⟨rfl, q1, rfl⟩
    have hd1 := below_drewN (Below.refl w4.heap.size w4) q1
    have HS2 := aside' (same_records Ay Aw rows.length cy cw rows (w4.drewN q1) (H4.out.2.1.1.below hd1) (H4.out.2.1.2.below hd1))
    clear HS1 hd1
    go_wp2_with fail
    refine Calls.mono HS2.out ?_
    rintro e w6 ⟨rfl, q2, rfl⟩
    have hd2 := below_drewN (Below.refl w4.heap.size w4) (q1 + q2)
    have HLF := aside' (left_any g kt n c A bs (w4.drewN (q1 + q2)) H4.out.2.2.1.1 (HR.out.1.below (H4.out.2.2.2.1.trans (hd2.mono H4.out.2.2.2.1.size))))
    clear HS2 hd2
    go_wp2_with fail
    refine Calls.mono HLF.out ?_
    rintro e w7 ⟨rfl, q3, rfl⟩
    have H7 : Aside ((RowsV ((w4.drewN (q1 + q2)).drewN q3) w1.heap.size (.slice Ax rows.length cx) rows vx ∧ RowsV ((w4.drewN (q1 + q2)).drewN q3) w2.heap.size (.slice Ay rows.length cy) rows vy) ∧ ((w4.drewN (q1 + q2)).drewN q3).ownsRow w.heap.size 5 1 (.slice (some ⟨g, 0, none⟩) n kt) n (nums .u8 bs) ∧ Below w.heap.size w ((w4.drewN (q1 + q2)).drewN q3) ∧ (((w4.drewN (q1 + q2)).drewN q3).heap.size = w4.heap.size)) := by
      have hd := below_drewN (below_drewN (Below.refl w4.heap.size w4) (q1 + q2)) q3
      have hf := Foot.ofBelow hd (fun _ => False)
      exact aside' ⟨⟨H4.out.1.1.foot hf (fun _ _ h => h), H4.out.1.2.foot hf (fun _ _ h => h)⟩, own_keep H4.out.2.2.1.2 hd, H4.out.2.2.2.1.trans (hd.mono H4.out.2.2.2.1.size), rfl⟩
    have HB := aside' H4.out.2.2.2.2
    clear HLF H4
    generalize (w4.drewN (q1 + q2)).drewN q3 = V at *
    by_cases h5 : 500 < rows.length
    · have g5 : decide (500 < (rows.length : Int)) = true := decide_eq_true (by omega)
      go_wp2
      go_ret
      exact ⟨rfl, H7.out.2.2.1⟩
    · have g5 : decide (500 < (rows.length : Int)) = false := decide_eq_false (by omega)
      have HBO : Aside ((V.alloc (.cells (bookCells 0 (.slice none 0 0) (.slice none 0 0)) 60)).heap[V.heap.size]? = some (.cells (bookCells 0 (.slice none 0 0) (.slice none 0 0)) 60)) := aside' (heap_alloc_new V (.cells (bookCells 0 (.slice none 0 0) (.slice none 0 0)) 60))
      have hz := HBk.zero V w.heap.size H7.out.2.2.1.size
      have HZ := aside' (And.intro hz.1 hz.2)
      clear hz
      go_wp2_with ((with_reducible show wpList _ _ _ _ _ _); refine wpList_store_row rfl 60 (.tmp 10) (.tmp 55) rfl V.heap.size (bookCells 0 (.slice none 0 0) (.slice none 0 0)) rfl rfl 60 (bookCells 0 (.slice none 0 0) (.slice none 0 0)) HBO.out (by kernel_rfl) rfl (by kernel_rfl) ?_; refine wpList_seen ?_; intro V2 hV; have HV := aside' hV; clear hV)
      have H8 : Aside (HBk V.heap.size V2 w.heap.size V.heap.size 0 (fun _ => False) ∧ Foot (fun q => V.heap.size ≤ q) V V2) := by
        rw [HV.out]
        exact aside' ⟨HZ.out.1, HZ.out.2.mono (fun _ _ h => h.elim)⟩
      clear HV HZ HBO
      have hb2 := HB.out
      rw [← H7.out.2.2.2] at hb2
      clear HB
      have HB := aside' hb2
      clear hb2
      generalize hS : V.heap.size = S0 at *
      have HK1 := aside' (H8.out.1.keep (A := some ⟨g, 0, none⟩) (n := n) (c := kt) (base2 := w.heap.size) (xs := bs) (by omega) (Nat.le_refl _) (own_foot H7.out.2.1 H8.out.2 (fun q hq hq' => by
        simp only [Value.ownBlock, Option.some.injEq] at hq
        have := HB.out.2.1.1; have := HB.out.2.1.2; omega)) (by omega) (fun q hq => ⟨fun h => h, by
        simp only [Value.ownBlock, Option.some.injEq] at hq
        have := HB.out.2.1.1; have := HB.out.2.1.2; omega⟩))
      go_wp2_with fail
      refine Calls.mono HK1.out ?_
      rintro e V3 ⟨⟨u1, rfl⟩, hk3, hf3⟩
      have hf23 := H8.out.2.trans hf3 (fun q hq => .inl hq)
      have HK2 := aside' (records_keep (s := w1.heap.size) (vs := vx) (rows := rows) hk3 (by omega) (by omega) HB.out.2.1.2.2.2.2 (H7.out.1.1.foot hf23 (fun q hq hq' => by have := (HB.out.1.1 q hq).2; have := HB.out.2.1.2; omega)) rfl (fun q hq hq' => by
        rcases hq with hq | hq
        · exact hq
        · simp only [Value.ownBlock, Option.some.injEq] at hq
          have := HB.out.1.1 q hq'; have := HB.out.2.1.1; omega) (fun q hq => by have := (HB.out.1.1 q hq).2; have := HB.out.2.1.2; omega) HB.out.2.2)
      have H9 := aside' hf23
      clear hk3 hf3 hf23 HK1 H8
      go_wp2_with fail
      refine Calls.mono HK2.out ?_
      rintro e V4 ⟨⟨u2, rfl⟩, hk4, hf4⟩
      have hf24 := H9.out.trans hf4 (fun q hq => .inl hq)
      have HK3 := aside' (records_keep (s := w2.heap.size) (vs := vy) (rows := rows) hk4 (by omega) (by omega) (by have := HB.out.2.1.2; omega) (H7.out.1.2.foot hf24 (fun q hq hq' => by have := (HB.out.1.2 q hq).2; have := HB.out.2.1.2; omega)) rfl (fun q hq hq' => by
        rcases hq with (hq | hq) | hq
        · exact hq
        · simp only [Value.ownBlock, Option.some.injEq] at hq
          have := HB.out.1.2 q hq'; have := HB.out.2.1; omega
        · have := HB.out.1.1 q hq; have := HB.out.1.2 q hq'; omega) (fun q hq => by have := (HB.out.1.2 q hq).2; have := HB.out.2.1.2; omega) HB.out.2.2)
      have H10 := aside' hf24
      clear hk4 hf4 hf24 HK2 H9
      go_wp2_with fail
      refine Calls.mono HK3.out ?_
      rintro e V5 ⟨⟨u3, rfl⟩, hk5, hf5⟩
      have hf25 := H10.out.trans hf5 (fun q hq => .inl hq)
      have HA := aside' (hk5.apart (by omega))
      have hb5 : Below w.heap.size w V5 := H7.out.2.2.1.trans (hf25.below (fun q hq => by have := HB.out.2.1; omega) H7.out.2.2.1.size)
      have H11 := aside' hb5
      clear hk5 hf5 hf25 HK3 H10 hb5
      go_wp2_with fail
      refine Calls.mono HA.out ?_
      rintro e V6 ⟨rfl, hb6⟩
      have H12 := aside' (H11.out.trans hb6)
      clear hb6 HA
      go_wp2
      go_ret
      exact ⟨rfl, H12.out⟩
end Go.Proofs.YtdgilloblfbklaaGreatDoor
