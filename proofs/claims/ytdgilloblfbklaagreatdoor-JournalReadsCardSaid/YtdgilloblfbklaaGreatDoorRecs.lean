/-
  The iterator over the records of bytes: journal.records.
-/
import Derived.Test.YtdgilloblfbklaaGreatDoorFrame
import Derived.Test.YtdgilloblfbklaaGreatDoorRangeAt
import Derived.Test.YtdgilloblfbklaaGreatDoorClassTail
import Derived.Sort.LoopGhostIn
import Derived.Shelf.RegionOpen
set_option linter.unusedVariables false
set_option linter.unusedSimpArgs false
namespace Go.Proofs.YtdgilloblfbklaaGreatDoor
open Go.RowKit SumsMath
attribute [local go_sem] Oper.semAt_some

theorem records_any (A : Option Addr) (n c : Nat) (w : World) : Calls Tryz.prog 12 #[.slice A n c] w fun e w' => e = .returned (.func (.func 108) #[] #[.pointer (some ⟨w.heap.size, 0, none⟩)]) ∧ w' = w.alloc (.cells #[.slice A n c] 22) := by
  go_enter Tryz.func12, Tryz.ntmps12
  go_wp2
  go_ret
  exact ⟨rfl, rfl⟩

/-- What is yielded. -/
def segV (ab ao c : Nat) (s : Nat × Nat) : Array Value := #[.slice (some ⟨ab, ao + s.1, none⟩) s.2 (c - s.1)]
theorem stepN (bs : List Int) (h : bs.length < 8 ∨ JMath.num4 bs < 1 ∨ 65537 < JMath.num4 bs ∨ (bs.length : Int) - 8 < JMath.num4 bs ∨ sumF 2 ((bs.drop 8).take (JMath.num4 bs).toNat) ≠ JMath.num4 (bs.drop 4)) : JMath.stepF (sumF 2) bs = none := by
  unfold JMath.stepF
  rw [if_neg]
  rintro ⟨h1, h2, h3, h4, h5⟩
  rcases h with h | h | h | h | h
  · omega
  · omega
  · omega
  · omega
  · exact h h5
theorem stepS (bs : List Int) (k : Nat) (h1 : 8 ≤ bs.length) (hk : JMath.num4 bs = (k : Int)) (h2 : 1 ≤ k) (h3 : k ≤ 65537) (h4 : k + 8 ≤ bs.length) (h5 : sumF 2 ((bs.drop 8).take k) = JMath.num4 (bs.drop 4)) : JMath.stepF (sumF 2) bs = some k := by
  unfold JMath.stepF
  rw [hk, Int.toNat_natCast, if_pos ⟨h1, by omega, by omega, by omega, h5⟩]
theorem bytes_drop {xs : List Int} (h : Bytes xs) (k : Nat) : Bytes (xs.drop k) := fun j => by
  have := h (k + j)
  simpa [List.getD_eq_getElem?_getD, List.getElem?_drop] using this
theorem bytes_take {xs : List Int} (h : Bytes xs) (k : Nat) : Bytes (xs.take k) := fun j => by
  by_cases hj : j < k
  · have := h j
    simpa [List.getD_eq_getElem?_getD, List.getElem?_take, hj] using this
  · simp [List.getD_eq_getElem?_getD, List.getElem?_take, hj]
theorem num4_bd {xs : List Int} (h : Bytes xs) : 0 ≤ JMath.num4 xs ∧ JMath.num4 xs ≤ 4294967295 := by
  have h0 := h 0
  have h1 := h 1
  have h2 := h 2
  have h3 := h 3
  unfold JMath.num4
  omega
theorem Reads.part {w : World} {ab ao n : Nat} {xs : List Int} (h : Reads w .u8 (some ⟨ab, ao, none⟩) n xs) (i k : Nat) (hi : i + k ≤ n) : Reads w .u8 (some ⟨ab, ao + i, none⟩) k ((xs.drop i).take k) := by
  refine ⟨by rw [List.length_take, List.length_drop, h.1]; omega, by have := h.2.1; omega, fun hk => ⟨_, rfl, fun j hj => ?_⟩⟩
  obtain ⟨ad, e, hc⟩ := h.2.2 (by omega)
  injection e with e
  have := hc (i + j) (by omega)
  rw [← e, Addr.add_lit] at this
  rw [Addr.add_lit, Nat.add_assoc, this]
  simp [List.getD_eq_getElem?_getD, List.getElem?_take, hj, List.getElem?_drop]
theorem Reads.keepC {F : Nat → Prop} {w w' : World} {k : IntKind} {A : Option Addr} {n : Nat} {xs : List Int} (h : Reads w k A n xs) (hk : KeepC F w w') (hF : 0 < n → ∀ ad, A = some ad → ¬ F ad.block) : Reads w' k A n xs :=
  ⟨h.1, h.2.1, fun hn => by
    obtain ⟨ad, e, hc⟩ := h.2.2 hn
    exact ⟨ad, e, fun j hj => hk.cell (hc j hj) (by rw [add_block]; exact hF hn ad e)⟩⟩

set_option maxRecDepth 100000 in
set_option maxHeartbeats 3200000 in
theorem recs_in (F0 : Nat → Prop) (l Bn ab ao n c m : Nat) (A : Option Addr) (bs : List Int) (hA : 0 < n → A = some ⟨ab, ao, none⟩) (hFB : ¬ F0 Bn) (hFa : 0 < n → ¬ F0 ab) (hne : 0 < n → ab ≠ Bn) (hx : Bytes bs) (hn : n ≤ 1000000000) (hnc : n ≤ c)
    (J : List (Nat × Nat) → World → Prop) (W : World) (hJ : ∀ pre X Y, J pre X → Foot (fun k => k = Bn) X Y → J pre Y) (all : List (Nat × Nat)) (hall : all = JMath.segs (sumF 2) (n + 1) 0 bs)
    (hY : ∀ pre x X, J pre X → (pre ++ [x]) <+: all → YieldAt Fence.wide m Tryz.prog l (segV ab ao c x) X fun e Y => e = .returned (.bool true) ∧ J (pre ++ [x]) Y ∧ KeepC F0 X Y)
    (hB : W.heap[Bn]? = some (.cells #[.slice A n c] 22 (0, 0))) (hR : Reads W .u8 A n bs) (h0 : J [] W) :
    CallsIn Fence.wide (m + 1) Tryz.prog 108 #[.func (.yield l) #[] #[], .pointer (some ⟨Bn, 0, none⟩)] W fun e W' => (∃ v, e = .returned v) ∧ J all W' := by
  refine callsIn_of_wp Tryz.func108 rfl trivial ?_ rfl
  simp only [Tryz.ntmps108, List.size_toArray, List.length_cons, List.length_nil, Nat.reduceAdd, Nat.reduceSub, Array.replicate_succ, Array.replicate_zero, List.push_toArray, List.append_toArray, List.nil_append, List.cons_append]
  have hl := hR.1
  have HX := aside' (And.intro hx (And.intro hA (And.intro hFa (And.intro hne hl))))
  have HY := aside' hY
  have HJ := aside' hJ
  have H0 := aside' (And.intro hB (And.intro hR (And.intro h0 hall)))
  clear hx hA hFa hne hl hY hJ hB hR h0 hall
  gi_wp2
  gi_loopg [3] (n + 1) (fun gk s3 wr => ∃ pos pre Av cv, Aside (pos ≤ n ∧ n - pos < gk ∧ all = pre ++ JMath.segs (sumF 2) gk pos (bs.drop pos) ∧ wr.heap[Bn]? = some (.cells #[.slice Av (n - pos) cv] 22 (0, 0)) ∧ n - pos ≤ cv ∧ (0 < n - pos → Av = some ⟨ab, ao + pos, none⟩ ∧ cv = c - pos) ∧ J pre wr ∧ (0 < n → Reads wr .u8 (some ⟨ab, ao, none⟩) n bs)))
  case atStart => exact ⟨0, [], A, c, Nat.zero_le _, by omega, by simpa using H0.out.2.2.2, H0.out.1, by omega, fun h => by simpa using HX.out.2.1 (by omega), H0.out.2.2.1, fun h => by have := H0.out.2.1; rwa [HX.out.2.1 h] at this⟩
  case round =>
    obtain ⟨pos, pre, Av, cv, HI⟩ := hrel
    obtain ⟨hpn, hgk, hall, hb, hrc, hAv, hJp, hRd⟩ := HI.out
    obtain ⟨r, hr⟩ : ∃ r, r = n - pos := ⟨_, rfl⟩
    rw [← hr] at hgk hb hrc hAv
    have hcell : wr.cell? ⟨Bn, 0, none⟩ = some (.slice Av r cv) := cellOf hb 0
    have hfz : wr.frozen? ⟨Bn, 0, none⟩ = false := frozenOf hb 0
    have HI := aside' (And.intro hall (And.intro hb (And.intro hAv (And.intro hJp hRd))))
    have HRR := aside' hr
    clear hall hb hAv hJp hRd hr
    by_cases h8 : r < 8
    · have hd : decide ((8 : Int) ≤ (r : Int)) = false := decide_eq_false (by omega)
      gi_wp2
      go_end0
      have hs : JMath.segs (sumF 2) gk pos (bs.drop pos) = [] := by
        obtain ⟨g, rfl⟩ : ∃ g, gk = g + 1 := ⟨gk - 1, by omega⟩
        rw [JMath.segs, stepN _ (.inl (by rw [List.length_drop, HX.out.2.2.2.2, ← HRR.out]; exact h8))]
      exact ⟨⟨_, rfl⟩, by have h1 := HI.out.1; rw [hs, List.append_nil] at h1; rw [h1]; exact HI.out.2.2.2.1⟩
    · have hrn : 0 < n := by have := HRR.out; omega
      obtain ⟨hav, hcv⟩ := HI.out.2.2.1 (by omega)
      have hrd := HI.out.2.2.2.2 hrn
      have hne := HX.out.2.2.2.1 hrn
      have hrr := HRR.out
      subst hav
      have hlen := HX.out.2.2.2.2
      have R0 := aside' (hrd.part pos r (by omega))
      have e0 : (bs.drop pos).take r = bs.drop pos := List.take_of_length_le (by rw [List.length_drop]; omega)
      rw [e0] at R0
      have R4 := aside' (hrd.part (pos + 4) (r - 4) (by omega))
      have e4 : (bs.drop (pos + 4)).take (r - 4) = (bs.drop pos).drop 4 := by rw [List.drop_drop]; exact List.take_of_length_le (by rw [List.length_drop]; omega)
      rw [e4] at R4
      obtain ⟨v, hv⟩ : ∃ v : Nat, JMath.num4 (bs.drop pos) = (v : Int) := ⟨(JMath.num4 (bs.drop pos)).toNat, by have := (num4_bd (bytes_drop HX.out.1 pos)).1; omega⟩
      have hv2 : (v : Int) ≤ 4294967295 := by have := (num4_bd (bytes_drop HX.out.1 pos)).2; omega
      have HN := aside' (number_any (some ⟨ab, ao + pos, none⟩) r cv (bs.drop pos) wr (bytes_drop HX.out.1 pos) R0.out (by omega))
      rw [hv] at HN
      have HV := aside' hv
      have hd : decide ((8 : Int) ≤ (r : Int)) = true := decide_eq_true (by omega)
      have HBL := aside' (show wr.heap[Bn]? = some (.cells #[.slice (some ⟨ab, ao + pos, none⟩) r cv] 22 (0, 0)) from HI.out.2.1)
      have HP := aside' (And.intro hrn (And.intro hcv (And.intro hrd (And.intro hne (And.intro hrr hlen)))))
      clear hv hrd hne hrr hlen e0 e4 hcv
      gi_wp2_with fail
      refine ⟨trivial, ?_⟩
      refine CallsIn.mono (callsIn_wide.2 HN.out) ?_
      rintro e w1 ⟨rfl, q, rfl⟩
      have v0 : (0 : Int) ≤ (v : Int) := by omega
      have hr8 : 8 ≤ r := by omega
      have hr9 : r ≤ 1000000000 := by have := HP.out.2.2.2.2.1; omega
      have hr0 : (8 : Int) ≤ (r : Int) := by omega
      have hr4 : (4 : Int) ≤ (r : Int) := by omega
      have hr5 : 4 ≤ r := by omega
      by_cases hbad : v < 1 ∨ 65537 < v ∨ r < v + 8
      · have hs : JMath.segs (sumF 2) gk pos (bs.drop pos) = [] := by
          have h1 := HP.out.2.2.2.2.1
          have h2 := HP.out.2.2.2.2.2
          have hlr : (bs.drop pos).length = r := by rw [List.length_drop]; omega
          obtain ⟨g, rfl⟩ : ∃ g, gk = g + 1 := ⟨gk - 1, by omega⟩
          rw [JMath.segs, stepN _ (by rw [HV.out, hlr]; rcases hbad with h | h | h <;> omega)]
        have HE := aside' (show J all (wr.drewN q) from by have h1 := HI.out.1; rw [hs, List.append_nil] at h1; rw [h1]; exact HJ.out _ _ _ HI.out.2.2.2.1 ((Foot.refl _ _).drewN q))
        clear hs HN
        by_cases b1 : v < 1
        · have b2 : decide ((v : Int) < 1) = true := decide_eq_true (by omega)
          clear hbad b1
          gi_wp2
          refine bodyPost_ret (results_none rfl _ _ _) rfl ?_
          exact ⟨⟨_, rfl⟩, HE.out⟩
        · have b2 : decide ((v : Int) < 1) = false := decide_eq_false (by omega)
          by_cases b3 : 65537 < v
          · have b4 : decide ((65537 : Int) < (v : Int)) = true := decide_eq_true (by omega)
            clear hbad b1 b3
            gi_wp2
            refine bodyPost_ret (results_none rfl _ _ _) rfl ?_
            exact ⟨⟨_, rfl⟩, HE.out⟩
          · have b4 : decide ((65537 : Int) < (v : Int)) = false := decide_eq_false (by omega)
            have b5 : decide ((r : Int) - 8 < (v : Int)) = true := decide_eq_true (by omega)
            clear hbad b1 b3
            gi_wp2
            refine bodyPost_ret (results_none rfl _ _ _) rfl ?_
            exact ⟨⟨_, rfl⟩, HE.out⟩
      · have b1 : decide ((v : Int) < 1) = false := decide_eq_false (by omega)
        have b2 : decide ((65537 : Int) < (v : Int)) = false := decide_eq_false (by omega)
        have b3 : decide ((r : Int) - 8 < (v : Int)) = false := decide_eq_false (by omega)
        have hv8 : 8 + v - 8 = v := by omega
        have hv9 : v ≤ 65537 := by omega
        have hv1 : 1 ≤ v := by omega
        have hc8 := eq_false (by omega : ¬ cv = 8)
        have hc4 := eq_false (by omega : ¬ cv = 4)
        have hv7 : v + 8 ≤ r := by omega
        have hv6 : (8 : Int) + (v : Int) ≤ (r : Int) := by omega
        have HS := aside' (fun V (hV : Below wr.heap.size wr V) => crc_any (some ⟨ab, ao + pos + 8, none⟩) v (cv - 8) ((bs.drop (pos + 8)).take v) (by omega) V (bytes_take (bytes_drop HX.out.1 _) _) ((HP.out.2.2.1.part (pos + 8) v (by have := HP.out.2.2.2.2.1; omega)).below hV))
        have HN4 := aside' (fun V (hV : Below wr.heap.size wr V) => number_any (some ⟨ab, ao + pos + 4, none⟩) (r - 4) (cv - 4) ((bs.drop pos).drop 4) V (bytes_drop (bytes_drop HX.out.1 _) _) (R4.out.below hV) (by omega))
        obtain ⟨sm, hsm⟩ : ∃ sm, sm = sumF 2 ((bs.drop (pos + 8)).take v) := ⟨_, rfl⟩
        obtain ⟨nm, hnm⟩ : ∃ nm, nm = JMath.num4 ((bs.drop pos).drop 4) := ⟨_, rfl⟩
        rw [← hsm] at HS
        rw [← hnm] at HN4
        have HSN := aside' (And.intro hsm hnm)
        clear hsm hnm HN hbad
        gi_wp2_with fail
        by_cases heq : sm = nm
        · subst heq
          have hq1 : (sm != sm) = false := by simp
          refine regionIn_class_tail (fun V => Below wr.heap.size wr V) 9 lets_wide (by kernel_rfl) (by kernel_rfl) (by kernel_rfl) (below_drewN (Below.refl _ _) (q + 1)) ?_
          simp only [List.take, List.drop]
          have hBs : Bn < wr.heap.size := (Array.getElem?_eq_some_iff.1 HBL.out).1
          repeat
            (first
              | go_big_quiet_skip
              | (go_big_quiet_want; first
                  | (go_big_quiet_op; go_big_quiet_on)
                  | (unfold Oper.quiet; apply Exists.intro; refine ⟨fun V hV => ?_, ?_⟩
                     · have hcV : V.cell? ⟨Bn, 0, none⟩ = some (.slice (some ⟨ab, ao + pos, none⟩) r cv) := (hV.cell (p := ⟨Bn, 0, none⟩) hBs).trans hcell
                       go_simp
                       first
                         | with_reducible rfl
                         | (go_at_call 110; refine Calls.mono (HS.out V hV) ?_; rintro e w5 ⟨he5, hb5⟩; exact ⟨he5, hV.trans (hb5.mono hV.size)⟩)
                         | (go_at_call 109; refine Calls.mono (HN4.out V hV) ?_; rintro e w5 ⟨he5, q5, hq5⟩; exact ⟨he5, by rw [hq5]; exact below_drewN hV q5⟩)
                     go_simp
                     go_big_quiet_on)))
          refine wpQuiet_nil ?_
          intro V hV
          have hlr : (bs.drop pos).length = r := by rw [List.length_drop]; have h1 := HP.out.2.2.2.2.1; have h2 := HP.out.2.2.2.2.2; omega
          have hst : JMath.stepF (sumF 2) (bs.drop pos) = some v := stepS _ v (by rw [hlr]; exact hr8) HV.out hv1 hv9 (by rw [hlr]; exact hv7) (by rw [List.drop_drop, ← HSN.out.1, ← HSN.out.2])
          obtain ⟨gj, rfl⟩ : ∃ gj, gk = gj + 1 := ⟨gk - 1, by omega⟩
          have hall := HI.out.1
          rw [JMath.segs, hst] at hall
          simp only at hall
          rw [List.drop_drop, show pos + (8 + v) = pos + 8 + v by omega] at hall
          have hpre : pre ++ [(pos + 8, v)] <+: all := ⟨_, by rw [hall, List.append_assoc]; rfl⟩
          have hyv := HY.out pre (pos + 8, v) V (HJ.out _ _ _ HI.out.2.2.2.1 (Foot.ofBelow hV _)) hpre
          have ev : segV ab ao c (pos + 8, v) = #[.slice (some ⟨ab, ao + pos + 8, none⟩) v (cv - 8)] := by
            unfold segV
            rw [HP.out.2.1, Nat.add_assoc, Nat.sub_sub]
          rw [ev] at hyv
          obtain ⟨fn, tmps, assign, body, hy, hRD⟩ := hyv
          have HBV := aside' ((hV.block Bn hBs).trans HBL.out)
          have HRV := aside' (HP.out.2.2.1.below hV)
          have HALL := aside' hall
          have HRD := aside' hRD
          clear hst hall hpre ev hV hRD
          gi_wp2
          refine HRD.out.mono ?_
          rintro e W3 ⟨rfl, hJ3, hK3⟩
          have HB3 := aside' (hK3.block _ _ _ _ HBV.out hFB)
          have HR3 := aside' (HRV.out.keepC hK3 (fun h ad e => by injection e with e; subst e; exact HX.out.2.2.1 HP.out.1))
          have HJ3 := aside' hJ3
          have hc3 : W3.cell? ⟨Bn, 0, none⟩ = some (.slice (some ⟨ab, ao + pos, none⟩) r cv) := cellOf HB3.out 0
          have hf3 : W3.frozen? ⟨Bn, 0, none⟩ = false := frozenOf HB3.out 0
          clear hJ3 hK3 HBV HRV HRD hcell hfz hy
          have fin : ∀ Av', (0 < r - (8 + v) → Av' = some ⟨ab, ao + (pos + 8 + v), none⟩) → Aside (pos + 8 + v ≤ n ∧ n - (pos + 8 + v) < gj ∧ all = (pre ++ [(pos + 8, v)]) ++ JMath.segs (sumF 2) gj (pos + 8 + v) (bs.drop (pos + 8 + v)) ∧ (W3.setCell ⟨Bn, 0, none⟩ (.slice Av' (r - (8 + v)) (cv - (8 + v)))).heap[Bn]? = some (.cells #[.slice Av' (n - (pos + 8 + v)) (cv - (8 + v))] 22 (0, 0)) ∧ n - (pos + 8 + v) ≤ cv - (8 + v) ∧ (0 < n - (pos + 8 + v) → Av' = some ⟨ab, ao + (pos + 8 + v), none⟩ ∧ cv - (8 + v) = c - (pos + 8 + v)) ∧ J (pre ++ [(pos + 8, v)]) (W3.setCell ⟨Bn, 0, none⟩ (.slice Av' (r - (8 + v)) (cv - (8 + v)))) ∧ (0 < n → Reads (W3.setCell ⟨Bn, 0, none⟩ (.slice Av' (r - (8 + v)) (cv - (8 + v)))) .u8 (some ⟨ab, ao, none⟩) n bs)) := by
            intro Av' hA'
            have h1 := HP.out.2.1
            have h2 := HP.out.2.2.2.2.1
            have hft : Foot (fun k => k = Bn) W3 (W3.setCell ⟨Bn, 0, none⟩ (.slice Av' (r - (8 + v)) (cv - (8 + v)))) := Foot.setCell (F := fun k => k = Bn) (Foot.refl _ _) (p := ⟨Bn, 0, none⟩) (.inl rfl) _
            refine ⟨by omega, by omega, by rw [HALL.out, List.append_assoc]; rfl, ?_, by omega, fun h => ⟨hA' (by omega), by omega⟩, HJ.out _ _ _ HJ3.out hft, fun h => HR3.out.foot hft (fun ad e _ => by injection e with e; subst e; exact HX.out.2.2.2.1 h)⟩
            rw [setCell_heap HB3.out]
            rw [show n - (pos + 8 + v) = r - (8 + v) by omega]
            rfl
          have hle : (0 : Int) ≤ 8 + (v : Int) := by omega
          by_cases hcap : cv = 8 + v
          · have hr2 : r = 8 + v := by omega
            have F2 := aside' (fin (some ⟨ab, ao + pos, none⟩) (fun h => by omega))
            clear fin
            subst hr2
            subst hcap
            simp only [Nat.sub_self] at F2
            gi_wp2
            go_roundg gj
            case measure => omega
            case rel => exact ⟨pos + 8 + v, pre ++ [(pos + 8, v)], _, _, F2.out⟩
          · have hcf := eq_false hcap
            have F2 := aside' (fin (some ⟨ab, ao + pos + (8 + v), none⟩) (fun h => by rw [show ao + pos + (8 + v) = ao + (pos + 8 + v) by omega]))
            clear fin
            gi_wp2
            go_roundg gj
            case measure => omega
            case rel => exact ⟨pos + 8 + v, pre ++ [(pos + 8, v)], _, _, F2.out⟩
        · have hq1 : (sm != nm) = true := by simp [heq]
          have hs : JMath.segs (sumF 2) gk pos (bs.drop pos) = [] := by
            obtain ⟨g, rfl⟩ : ∃ g, gk = g + 1 := ⟨gk - 1, by omega⟩
            rw [JMath.segs, stepN _ (.inr (.inr (.inr (.inr (by rw [HV.out, Int.toNat_natCast, List.drop_drop, ← HSN.out.1, ← HSN.out.2]; exact heq)))))]
          have HE := aside' (show ∀ V, Below wr.heap.size wr V → J all V from fun V hV => by have h1 := HI.out.1; rw [hs, List.append_nil] at h1; rw [h1]; exact HJ.out _ _ _ HI.out.2.2.2.1 (Foot.ofBelow hV _))
          clear hs heq
          refine regionIn_class (fun V => Below wr.heap.size wr V) lets_wide (by kernel_rfl) (by kernel_rfl) (by kernel_rfl) (below_drewN (Below.refl _ _) (q + 1)) ?_
          have hBs : Bn < wr.heap.size := (Array.getElem?_eq_some_iff.1 HBL.out).1
          repeat
            (first
              | go_big_quiet_skip
              | (go_big_quiet_want; first
                  | (go_big_quiet_op; go_big_quiet_on)
                  | (unfold Oper.quiet; apply Exists.intro; refine ⟨fun V hV => ?_, ?_⟩
                     · have hcV : V.cell? ⟨Bn, 0, none⟩ = some (.slice (some ⟨ab, ao + pos, none⟩) r cv) := (hV.cell (p := ⟨Bn, 0, none⟩) hBs).trans hcell
                       go_simp
                       first
                         | with_reducible rfl
                         | (go_at_call 110; refine Calls.mono (HS.out V hV) ?_; rintro e w5 ⟨he5, hb5⟩; exact ⟨he5, hV.trans (hb5.mono hV.size)⟩)
                         | (go_at_call 109; refine Calls.mono (HN4.out V hV) ?_; rintro e w5 ⟨he5, q5, hq5⟩; exact ⟨he5, by rw [hq5]; exact below_drewN hV q5⟩)
                     go_simp
                     go_big_quiet_on)))
          refine wpQuiet_nil ?_
          intro V hV
          have HEV := aside' (HE.out V hV)
          clear hV HE
          gi_wp2
          refine bodyPost_ret (results_none rfl _ _ _) rfl ?_
          exact ⟨⟨_, rfl⟩, HEV.out⟩
end Go.Proofs.YtdgilloblfbklaaGreatDoor
