/-
  The document's journal: Read.
-/
import Derived.Test.YtdgilloblfbklaaGreatDoorR3
import Derived.Test.YtdgilloblfbklaaGreatDoorRowsAt
import Derived.Test.YtdgilloblfbklaaGreatDoorRecs
import Derived.Test.YtdgilloblfbklaaGreatDoorClassRegion
set_option linter.unusedVariables false
set_option linter.unusedSimpArgs false
namespace Go.Proofs.YtdgilloblfbklaaGreatDoor
open Go.RowKit SumsMath

theorem wrap_i64_of (x : Int) (h0 : -9223372036854775808 ≤ x) (h1 : x ≤ 9223372036854775807) : IntKind.i64.wrap x = x := by rw [IntKind.wrap_i64]; omega
theorem num4_take (xs : List Int) : JMath.num4 (xs.take 4) = JMath.num4 xs := by
  unfold JMath.num4
  simp only [List.getD_eq_getElem?_getD, List.getElem?_take]
  simp
theorem recsF_next (bs : List Int) : JMath.recsF (sumF 2) bs = match JMath.stepF (sumF 2) bs with
    | none => []
    | some n => (bs.drop 8).take n :: JMath.recsF (sumF 2) (bs.drop (8 + n)) := by
  unfold JMath.recsF
  rw [JMath.recs]
  cases h : JMath.stepF (sumF 2) bs with
  | none => rfl
  | some n =>
    have hs := JMath.step_some (sumF 2) h
    simp only
    rw [JMath.recs_fuel (sumF 2) (bs.drop (8 + n)) bs.length (by rw [List.length_drop]; omega)]
theorem stepY (bs : List Int) (v : Nat) (h8 : 8 ≤ bs.length) (hv : JMath.num4 bs = (v : Int)) (h1 : 1 ≤ v) (h2 : v ≤ 65537) (h3 : v + 8 ≤ bs.length) (hc : sumF 2 ((bs.drop 8).take v) = JMath.num4 (bs.drop 4)) : JMath.stepF (sumF 2) bs = some v := by
  unfold JMath.stepF
  rw [hv, Int.toNat_natCast, if_pos ⟨h8, by omega, by omega, by omega, hc⟩]
set_option maxRecDepth 100000 in
set_option maxHeartbeats 1200000 in
theorem RRead_ok (A : Option Addr) (n c : Nat) (bs : List Int) (w : World) (hx : Bytes bs) (hR : Reads w .u8 A n bs) (hn : n ≤ 1000000000) (hnc : n ≤ c) (hc9 : c ≤ 9223372036854775807) :
    Calls Tryz.prog 6 #[.slice A n c] w fun e w' => ∃ out, e = .returned (.tuple #[out, .int .i64 (JMath.total (JMath.recsF (sumF 2) bs) : Int)]) ∧ RowsAt w' w.heap.size out (JMath.recsF (sumF 2) bs) ∧ Below w.heap.size w w' := by
  have hl := hR.1
  have HX := aside' (And.intro hx (And.intro hR hl))
  clear hx hR hl
  go_enter Tryz.func6, Tryz.ntmps6
  go_wp2
  go_loopw [4, 5] (fun out at_ wr => ∃ pos : Nat, pos ≤ n ∧ at_ = .int .i64 pos ∧ Aside (∃ l, JMath.recsF (sumF 2) bs = l ++ JMath.recsF (sumF 2) (bs.drop pos) ∧ JMath.total l = pos ∧ RowsAt wr w.heap.size out l ∧ Below w.heap.size w wr)) (fun _ at_ _ => n - (intOf at_).toNat)
  case atStart => exact ⟨0, Nat.zero_le _, rfl, ⟨[], by simp, rfl, RowsAt.nil _ _, Below.refl _ _⟩⟩
  case round =>
    obtain ⟨pos, hpn, rfl, HI⟩ := hrel
    obtain ⟨l, hrec, htot, hrows, hbel⟩ := HI.out
    obtain ⟨vs, hrv⟩ := hrows
    obtain ⟨Ao, Lo, co, rfl, HLo⟩ := own_form hrv.2.1
    have hLo := HLo.out
    subst hLo
    have HRV := aside' hrv
    have HRec := aside' (And.intro hrec htot)
    have HB := aside' hbel
    have hlen := HX.out.2.2
    have hlr : (bs.drop pos).length = n - pos := by rw [List.length_drop, hlen]
    have HEND := aside' (fun (h : JMath.stepF (sumF 2) (bs.drop pos) = none) => (show JMath.recsF (sumF 2) bs = l ∧ JMath.total (JMath.recsF (sumF 2) bs) = pos from by
      have h1 : JMath.recsF (sumF 2) (bs.drop pos) = [] := by rw [recsF_next, h]
      rw [hrec, h1, List.append_nil]
      exact ⟨rfl, htot⟩))
    have HLR := aside' hlr
    have hll : l.length ≤ 1000000000 := by
      have h1 := JMath.total_recs (sumF 2) (bs.length + 1) bs
      have h2 : ∀ q : List (List Int), q.length ≤ JMath.total q := by
        intro q
        induction q with
        | nil => exact Nat.le_refl _
        | cons x q ih => simp only [List.length_cons, JMath.total]; omega
      have := h2 l
      omega
    clear hrec hrv hlen hlr HI HLo
    by_cases h8 : n - pos < 8
    · have g1 : decide ((8 : Int) ≤ (n : Int) - (pos : Int)) = false := decide_eq_false (by omega)
      have hE := aside' (HEND.out (stepN _ (.inl (by rw [HLR.out]; exact h8))))
      clear htot hbel HEND
      go_wp2
      go_ret2
      exact ⟨.slice Ao l.length co, by rw [hE.out.2]; rfl, by rw [hE.out.1]; exact ⟨vs, HRV.out⟩, HB.out⟩
    · have g1 : decide ((8 : Int) ≤ (n : Int) - (pos : Int)) = true := decide_eq_true (by omega)
      have hrd := HX.out.2.1.below HB.out
      obtain ⟨ab, ao, rfl, hab, _⟩ := HX.out.2.1.plain (by omega)
      have R0 := aside' (hrd.part pos 4 (by omega))
      have R4 := aside' (hrd.part (pos + 4) 4 (by omega))
      obtain ⟨v, hv⟩ : ∃ v : Nat, JMath.num4 (bs.drop pos) = (v : Int) := ⟨(JMath.num4 (bs.drop pos)).toNat, by have := (num4_bd (bytes_drop HX.out.1 pos)).1; omega⟩
      have hv2 : (v : Int) ≤ 4294967295 := by have := (num4_bd (bytes_drop HX.out.1 pos)).2; omega
      have HN := aside' (rnumber_any (some ⟨ab, ao + pos, none⟩) 4 (c - pos) ((bs.drop pos).take 4) wr (bytes_take (bytes_drop HX.out.1 pos) 4) R0.out (Nat.le_refl _))
      rw [num4_take, hv] at HN
      have HV := aside' (And.intro hv hrd)
      have v0 : (0 : Int) ≤ (v : Int) := by omega
      have c1 : (pos : Int) + 4 ≤ (c : Int) := by omega
      have c2 : pos + 4 ≤ c := by omega
      have c3 := eq_false (by omega : ¬ pos = c)
      have c4 : (0 : Int) ≤ (pos : Int) := by omega
      have c5 : (pos : Int) ≤ (pos : Int) + 4 := by omega
      have c6 : pos + 4 - pos = 4 := by omega
      have c7 : (pos : Int) ≤ (c : Int) := by omega
      have c8 : (0 : Int) ≤ (pos : Int) + 4 := by omega
      have c9 : ((pos : Int) + 4).toNat = pos + 4 := by omega
      clear hv hrd htot hbel R0
      go_wp2_with fail
      refine Calls.mono HN.out ?_
      rintro e w1 ⟨rfl, q, rfl⟩
      have HEN := aside' (HEND.out)
      by_cases hbad : v < 1 ∨ 65537 < v ∨ n - pos < v + 8
      · have hE := aside' (HEND.out (stepN _ (by rw [HV.out.1, HLR.out]; rcases hbad with h | h | h <;> omega)))
        clear HEND HEN HN
        by_cases b1 : v < 1
        · have b2 : decide ((v : Int) < 1) = true := decide_eq_true (by omega)
          clear hbad b1
          go_wp2
          go_ret2
          exact ⟨.slice Ao l.length co, by rw [hE.out.2]; rfl, by rw [hE.out.1]; exact RowsAt.map ⟨vs, HRV.out⟩ (fun _ _ _ _ hh => hh), below_drewN HB.out q⟩
        · have b2 : decide ((v : Int) < 1) = false := decide_eq_false (by omega)
          by_cases b3 : 65537 < v
          · have b4 : decide ((65537 : Int) < (v : Int)) = true := decide_eq_true (by omega)
            clear hbad b1 b3
            go_wp2
            go_ret2
            exact ⟨.slice Ao l.length co, by rw [hE.out.2]; rfl, by rw [hE.out.1]; exact RowsAt.map ⟨vs, HRV.out⟩ (fun _ _ _ _ hh => hh), below_drewN HB.out q⟩
          · have b4 : decide ((65537 : Int) < (v : Int)) = false := decide_eq_false (by omega)
            have b5 : decide ((n : Int) - (pos : Int) - 8 < (v : Int)) = true := decide_eq_true (by omega)
            clear hbad b1 b3
            go_wp2
            go_ret2
            exact ⟨.slice Ao l.length co, by rw [hE.out.2]; rfl, by rw [hE.out.1]; exact RowsAt.map ⟨vs, HRV.out⟩ (fun _ _ _ _ hh => hh), below_drewN HB.out q⟩
      · have b1 : decide ((v : Int) < 1) = false := decide_eq_false (by omega)
        have b2 : decide ((65537 : Int) < (v : Int)) = false := decide_eq_false (by omega)
        have b3 : decide ((n : Int) - (pos : Int) - 8 < (v : Int)) = false := decide_eq_false (by omega)
        have hv9 : v ≤ 65537 := by omega
        have hv1 : 1 ≤ v := by omega
        have hv7 : v + 8 ≤ n - pos := by omega
        have w8 := wrap_i64_of ((pos : Int) + 8) (by omega) (by omega)
        have w4 := wrap_i64_of ((pos : Int) + 4) (by omega) (by omega)
        have HS := aside' (fun V (hV : Below wr.heap.size wr V) => rsum_any (some ⟨ab, ao + (pos + 8), none⟩) v (c - (pos + 8)) ((bs.drop (pos + 8)).take v) (by omega) V (bytes_take (bytes_drop HX.out.1 _) _) ((HV.out.2.part (pos + 8) v (by omega)).below hV))
        have HN4 := aside' (fun V (hV : Below wr.heap.size wr V) => rnumber_any (some ⟨ab, ao + (pos + 4), none⟩) 4 (c - (pos + 4)) ((bs.drop (pos + 4)).take 4) V (bytes_take (bytes_drop HX.out.1 _) _) (R4.out.below hV) (Nat.le_refl _))
        rw [num4_take] at HN4
        obtain ⟨sm, hsm⟩ : ∃ sm, sm = sumF 2 ((bs.drop (pos + 8)).take v) := ⟨_, rfl⟩
        obtain ⟨nm, hnm⟩ : ∃ nm, nm = JMath.num4 (bs.drop (pos + 4)) := ⟨_, rfl⟩
        rw [← hsm] at HS
        rw [← hnm] at HN4
        have HSN := aside' (And.intro hsm hnm)
        have d1 : (pos : Int) + 8 ≤ (pos : Int) + 8 + (v : Int) := by omega
        have d2 : (pos : Int) + 8 + (v : Int) ≤ (c : Int) := by omega
        have d14 : ((pos : Int) + 8 + (v : Int)).toNat = pos + 8 + v := by omega
        have d3 : ((pos : Int) + 8).toNat = pos + 8 := by omega
        have d4 : pos + 8 + v - (pos + 8) = v := by omega
        have d5 := eq_false (by omega : ¬ c = pos + 8)
        have d6 : (0 : Int) ≤ (pos : Int) + 8 := by omega
        have d7 : (pos : Int) + 4 ≤ (pos : Int) + 8 := by omega
        have d8 : (pos : Int) + 8 ≤ (c : Int) := by omega
        have d9 : pos + 8 - (pos + 4) = 4 := by omega
        have d10 := eq_false (by omega : ¬ c = pos + 4)
        have d11 : pos + 8 ≤ pos + 8 + v := by omega
        have d12 : pos + 8 + v ≤ c := by omega
        have d13 : pos + 8 ≤ c := by omega
        have hEn : pos + 8 + v ≤ n := by omega
        have d15 : (0 : Int) ≤ (pos : Int) + 8 + (v : Int) := by omega
        clear hsm hnm HN hbad
        go_wp2_with fail
        refine region_class (fun V => Below wr.heap.size wr V) (by kernel_rfl) (by kernel_rfl) (below_drewN (Below.refl _ _) q).drew ?_
        repeat
          (first
            | go_big_quiet_skip
            | (go_big_quiet_want; first
                | (go_big_quiet_op; go_big_quiet_on)
                | (unfold Oper.quiet; apply Exists.intro; refine ⟨fun V hV => ?_, ?_⟩
                   · go_simp
                     first
                       | with_reducible rfl
                       | (go_at_call 14; with_reducible refine Calls.mono (HS.out V hV) ?_; rintro e w5 ⟨he5, hb5⟩; exact ⟨he5, hV.trans (hb5.mono hV.size)⟩)
                       | (go_at_call 13; with_reducible refine Calls.mono (HN4.out V hV) ?_; rintro e w5 ⟨he5, q5, hq5⟩; exact ⟨he5, by rw [hq5]; exact below_drewN hV q5⟩)
                   go_simp
                   go_big_quiet_on)))
        refine wpQuiet_nil ?_
        intro V hV
        have HRX := aside' ((HV.out.2.part (pos + 8) v (by omega)).below hV)
        have HRVV := aside' (show RowsV V w.heap.size (.slice Ao l.length co) l vs from ⟨HRV.out.1, own_map HRV.out.2.1 (fun g cs t _ hq hh => (hV.block g (own_lt HRV.out.2.1 hq).2).trans hh), fun i hi => by
          obtain ⟨g, cc, e1, e2, e3, e4⟩ := (HRV.out.2.2 i hi).ex
          exact ⟨g, cc, e1, own_map e2 (fun g cs t _ hq hh => (hV.block g (own_lt e2 hq).2).trans hh), e3, e4⟩⟩)
        have HBV := aside' (HB.out.trans (hV.mono HB.out.size))
        have hsV := HBV.out.size
        clear hV HS HN4 HRV HB
        by_cases heq : sm = nm
        · subst heq
          have q1 : (sm != sm) = false := by simp
          have HST := aside' (stepY (bs.drop pos) v (by rw [HLR.out]; omega) HV.out.1 hv1 hv9 (by rw [HLR.out]; omega) (by rw [List.drop_drop, List.drop_drop, ← HSN.out.1, ← HSN.out.2]))
          obtain ⟨x, hx⟩ : ∃ x, x = (bs.drop (pos + 8)).take v := ⟨_, rfl⟩
          rw [← hx] at HRX
          have HXX := aside' hx
          have hxl := HRX.out.1
          clear hx HSN HEN HEND
          go_upto_region 10 with (at_builtin; refine append_row w.heap.size rfl _ _ 22 5 .u8 1 rfl Tryz.underlying22 infoU8 (by omega) (.slice none 0 0) [] x (some ⟨ab, ao + (pos + 8), none⟩) v (c - (pos + 8)) rfl rfl (World.ownsRow_nil V w.heap.size 5 1) HRX.out hsV (by simp; omega) ?_; intro v1 w1 hown1 hg1 hat1; rw [List.nil_append, hxl] at hown1; have hatg : v1.ownBlock = some V.heap.size := (by rcases hat1 with h | h; (obtain ⟨g', c', rfl, _⟩ := own_some hown1 (by omega); cases h); exact h); have HV1 := aside' (And.intro hown1 (And.intro hg1 hatg)); obtain ⟨g, cg, rfl, hgb, hgs, hgc, _⟩ := own_some hown1 (by omega); have hkeep : ∀ {n' : Nat} {v' : Value} {xs' : List Value} {e' : TypeId} {s' : Nat}, V.ownsRow w.heap.size e' s' v' n' xs' → w1.ownsRow w.heap.size e' s' v' n' xs' := (fun h => own_map h (fun q cs t _ hq hh => (hg1.block q (own_lt h hq).2 (by simp [Value.ownBlock])).trans hh)); have HO := aside' ((hkeep HRVV.out.2.1).alloc (.cells #[.slice (some ⟨g, 0, none⟩) v cg] 22)); have HC := aside' (Cells.lit w1 22 #[.slice (some ⟨g, 0, none⟩) v cg] 1 1 rfl (by intro u hu; simp at hu; subst hu; rfl)); have hb1 : Below w.heap.size w w1 := HBV.out.trans (own_grown (World.ownsRow_nil V w.heap.size 5 1) hg1 hsV); have HB1 := aside' (hb1.alloc hb1.size (.cells #[.slice (some ⟨g, 0, none⟩) v cg] 22)); have hsz := HB1.out.size; clear hown1 hg1 hat1 hatg hgb hgs hkeep hb1)
          go_wp2_with (at_builtin; refine append_cells w.heap.size rfl _ _ 24 22 (.slice none 0 0) 1 24 rfl Tryz.underlying24 infoSB rfl (by omega) (by omega) (.slice Ao l.length co) l.length vs [.slice (some ⟨g, 0, none⟩) v cg] _ 1 1 rfl rfl HO.out HC.out hsz (by omega) ?_; intro v2 w2 hown2 hg2 hat2; have HW2 := aside' (And.intro hown2 (And.intro hg2 (And.intro hat2 (HB1.out.trans (own_grown HO.out hg2 hsz))))); obtain ⟨g2, c2, rfl, _, _, _, _⟩ := own_some hown2 (by omega); clear hown2 hg2 hat2)
          go_roundw
          case rel =>
            refine ⟨pos + 8 + v, hEn, by go_num, l ++ [x], ?_, ?_, ?_, HW2.out.2.2.2⟩
            · rw [HRec.out.1, recsF_next (bs.drop pos), HST.out, List.append_assoc]
              simp only [List.drop_drop, List.cons_append, List.nil_append]
              rw [HXX.out, Nat.add_assoc]
            · rw [JMath.total_append, HRec.out.2]
              simp only [JMath.total]
              omega
            · refine RowsV.push (W := V) (W1 := w1) (v1 := .slice (some ⟨g, 0, none⟩) v cg) HRVV.out (by omega) (by rw [hxl]; exact HV1.out.1) HV1.out.2.1 HV1.out.2.2 HW2.out.1 (fun q o hq hne hh => (HW2.out.2.1.block q (by simp; omega) (fun e => hne e.symm)).trans ((Below.heap_alloc _ _ _ hq).trans hh)) ?_
              rcases HW2.out.2.2.1 with h | h
              · left; exact h
              · right; exact ⟨_, h, by simp⟩
          case measure => (simp [intOf]; omega)
        · have q1 : (sm != nm) = true := by simp [heq]
          have hE := aside' (HEND.out (stepN _ (.inr (.inr (.inr (.inr (by rw [HV.out.1, Int.toNat_natCast, List.drop_drop, List.drop_drop, ← HSN.out.1, ← HSN.out.2]; exact heq)))))))
          clear HSN HEN HEND
          go_wp2
          go_ret2
          exact ⟨.slice Ao l.length co, by rw [hE.out.2]; rfl, by rw [hE.out.1]; exact ⟨vs, HRVV.out⟩, HBV.out⟩
end Go.Proofs.YtdgilloblfbklaaGreatDoor
