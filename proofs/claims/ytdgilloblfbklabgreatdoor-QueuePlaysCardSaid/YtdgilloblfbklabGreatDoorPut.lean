/-
  Queue.Put where there is room.
-/
import Derived.Test.YtdgilloblfbklabGreatDoorQ3
import Derived.Test.YtdgilloblfbklabGreatDoorWInv
import Derived.Test.YtdgilloblfbklabGreatDoorWInvWords
set_option linter.unusedVariables false
set_option linter.unusedSimpArgs false
namespace Go.Proofs.YtdgilloblfbklabGreatDoor.Own
open Go.RowKit Go.Proofs.YtdgilloblfbklabGreatDoorW.PrintLast
open Go.Proofs.YtdgilloblfbklabGreatDoorW.PrintWords (Aside0)

def put6.T6 : Bool × List (List Nat × List Nat) := (true, [([], []), ([], []), ([], []), ([], []), ([], []), ([4], [4]), ([5], [5]), ([], []), ([7], [7]), ([0], [0]), ([9], [9]), ([10, 1, 0, 1, 4, 5, 6], [1, 10]), ([11, 6, 6, 0, 1, 4, 5, 6], [6, 11]), ([2], [2]), ([13], [13]), ([14, 3, 0, 1, 2, 3, 4, 5, 6, 7, 8, 9, 10, 11, 12], [3, 14]), ([15, 8, 12, 0, 1, 2, 3, 4, 5, 6, 7, 8, 9, 10, 11, 12], [8, 15])])
def put6.B6 : List Nat := [0, 0, 0, 0, 0, 16, 48, 0, 128, 1, 513, 1651, 3699, 4, 8196, 32767, 65535]
theorem put6.tab6 : rtab .any (opsOf Tryz.f8 6) = put6.T6 := by kernel_rfl
theorem put6.bits6 : waitsOk put6.T6.2 put6.B6 = true := by kernel_rfl
set_option maxRecDepth 100000 in
set_option maxHeartbeats 3200000 in
theorem Put_ok (w : World) (q room : Nat) (ring : List Value) (ports : List Int) (fr n : Nat) (h : QBox w q room ring ports fr n) (hn : n < room) (hr : room ≤ 64) (hfr : fr < 64) (p : Int) (A : Option Addr) (m c : Nat) (xs : List Int)
    (hS : Reads w .u8 A m xs) (hm : m ≤ 140737488351232) (hA : A = none → c = 0) (hAq : ∀ ad, A = some ad → 0 < m → ad.block ≠ q) :
    Calls Tryz.prog 8 #[.pointer (some ⟨q, 0, none⟩), .agg #[.int .i64 p, .slice A m c]] w fun e w' => ∃ v, e = .returned (.int .i64 0) ∧ QBox w' q room (ring.set ((fr + n) % 64) v) (ports.set ((fr + n) % 64) p) fr (n + 1) ∧ CpF w.heap.size w' q v xs ∧ Foot (fun i => i = q) w w' := by
  have hb := (Below.refl w.heap.size w).alloc (Nat.le_refl _) (.cells #[.int .i64 p, .slice A m c] 37)
  have hq := h.below hb
  have hlt := h.lt
  have HT := aside' (there_ok _ q room ring ports fr n hq)
  have h1 := hq.cN
  have h2 := hq.cRoom
  have h3 := hq.cFr
  have hd : decide ((room : Int) ≤ (n : Int)) = false := decide_eq_false (by omega)
  have HB := aside' (Foot.ofBelow hb (fun i => i = q))
  have HQ := aside' hq
  have HCB := aside' (heap_alloc_new w (.cells #[.int .i64 p, .slice A m c] 37))
  have hcq : ¬ w.heap.size = q := by omega
  have HCL := aside' (show ∀ V, Foot (fun i => i = q) (w.alloc (.cells #[.int .i64 p, .slice A m c] 37)) V → Calls Tryz.prog 21 #[.slice A m c] V (fun e w' => ∃ v, e = .returned v ∧ CpF w.heap.size w' q v xs ∧ Below V.heap.size V w') from fun V hf => (Clone_bytes A m c xs V ((hS.below hb).foot hf (fun ad e h0 => hAq ad e h0)) hm hA).mono (fun e w' ⟨v, he, ho, hb'⟩ => ⟨v, he, ⟨CpAt.own ho hS.1 (Nat.lt_of_lt_of_le hq.lt hf.size), fun k hk => by have h1 := ((FRow.of_own ho).lt k hk).1; have h2 := hf.size; have h3 := hb.size; omega⟩, hb'⟩))
  obtain ⟨k, hk⟩ : ∃ k, k = (fr + n) % 64 := ⟨_, rfl⟩
  have hk64 : k < 64 := by omega
  have hk0 : (0 : Int) ≤ (k : Int) := by omega
  have hk1 : (k : Int) < 64 := by omega
  have he : ((fr : Int) + (n : Int)) % 64 = (k : Int) := by omega
  rw [← hk]
  clear h hb hq hS hA hAq hk
  generalize hcbx : w.heap.size = cb at *
  go_enter Tryz.func8, Tryz.ntmps8
  go_wp2_with fail
  generalize w.alloc (.cells #[.int .i64 p, .slice A m c] 37) = wr0 at *
  refine Calls.mono HT.out ?_
  rintro e w1 ⟨rfl, rfl⟩
  go_wp2_with fail
  go_quiet (fail)
  go_wp2_with fail
  go_quiet (fail)
  go_wp2_with fail
  rw [he]
  have FF := aside' trivial
  have F0 := aside' trivial
  refine start_ (n := 17) (S := fun w' => True) (ds := []) #[false, false, false, false, false, false, false, false, false, false, false, false, false, false, false, false, false] (by kernel_rfl) rfl rfl trivial (fun hHeld => ?_)
  refine with_tabW put6.tab6 put6.bits6 (fun HT_ HW_ => ?_)
  refine inv_at [0, 1, 2, 3, 4, 5, 6, 7, 8, 9, 10, 11, 12, 13, 14, 15, 16] (fun a0_ b a w' => ∃ (v : Value), a = putSel a0_ b [(0, 30, .pointer (some ⟨q, 0, none⟩)), (1, 31, .int .i64 (k : Int)), (2, 32, .pointer (some ⟨q, 0, none⟩)), (3, 33, .int .i64 (k : Int)), (4, 34, .pointer (some ⟨cb, 1, none⟩)), (5, 35, .slice A m c), (6, 36, v), (7, 37, .pointer (some ⟨cb, 0, none⟩)), (8, 38, .int .i64 p), (9, 39, .pointer (some ⟨q, 0, none⟩)), (10, 40, .pointer (some ⟨q, 2, none⟩)), (11, 41, .pointer (some ⟨q, 2 + k, none⟩)), (13, 42, .pointer (some ⟨q, 0, none⟩)), (14, 43, .pointer (some ⟨q, 66, none⟩)), (15, 44, .pointer (some ⟨q, 66 + k, none⟩))] ∧ (Foot (fun i => i = q) w1 w') ∧ (b 12 = false → QBox w' q room ring ports fr n) ∧ (b 12 = true → b 16 = false → QBox w' q room (ring.set k v) ports fr n) ∧ (b 16 = true → QBox w' q room (ring.set k v) (ports.set k p) fr n) ∧ (b 6 = true → CpF cb w' q v xs)) HT_.out HW_.out (by kernel_rfl) (by kernel_rfl) ?_ ?_ ?_
  · exact ⟨(.slice none 0 0), by simp only [putSel, Bool.false_eq_true, if_false], (((Foot.refl _ _).drewN _).drewN _).drew, fun _ => HQ.out.below (below_drewN (below_drewN (Below.refl _ _) _) _).drew, fun h_ => absurd h_ (by decide), fun h_ => absurd h_ (by decide), fun h_ => absurd h_ (by decide)⟩
  · skip
    clear F0 FF
    refine steps_cons ?_ ?_
    · rintro b a w' ⟨v, ha, Q_FF, Q_F0, Q_F1, Q_F3, Q_FV⟩ hb_ hon hoff
      refine ⟨_, rfl, fun K hK => ?_⟩
      have e0 : a.tmps[0]? = some (.pointer (some ⟨q, 0, none⟩)) := by rw [ha]; exact (putSel_off rfl).trans rfl
      replace ha := Aside0.mk ha
      have FF := Aside0.mk Q_FF
      have F0 := Aside0.mk (Q_F0 (hoff 12 (by kernel_rfl)))
      refine value_ (w1 := w') (v := .pointer (some ⟨q, 0, none⟩)) (by rfl) rfl ?_ ?_
      · go_simp
        (try simp only [i64_w])
        try rfl
      refine hK.out _ _ ⟨v, (by rw [ha.out]; exact putSel_upk 0 hb_ rfl rfl rfl), Q_FF, Q_F0, fun h0_ _ => absurd ((hoff 12 (by kernel_rfl)).symm.trans h0_) (by decide), fun h0_ => absurd ((hoff 16 (by kernel_rfl)).symm.trans h0_) (by decide), Q_FV⟩
    refine steps_cons ?_ ?_
    · rintro b a w' ⟨v, ha, Q_FF, Q_F0, Q_F1, Q_F3, Q_FV⟩ hb_ hon hoff
      refine ⟨_, rfl, fun K hK => ?_⟩
      have e5 : a.tmps[5]? = some (.int .i64 (k : Int)) := by rw [ha]; exact (putSel_off rfl).trans rfl
      replace ha := Aside0.mk ha
      have FF := Aside0.mk Q_FF
      have F0 := Aside0.mk (Q_F0 (hoff 12 (by kernel_rfl)))
      refine value_ (w1 := w') (v := .int .i64 (k : Int)) (by rfl) rfl ?_ ?_
      · go_simp
        (try simp only [i64_w])
        try rfl
      refine hK.out _ _ ⟨v, (by rw [ha.out]; exact putSel_upk 1 hb_ rfl rfl rfl), Q_FF, Q_F0, fun h0_ _ => absurd ((hoff 12 (by kernel_rfl)).symm.trans h0_) (by decide), fun h0_ => absurd ((hoff 16 (by kernel_rfl)).symm.trans h0_) (by decide), Q_FV⟩
    refine steps_cons ?_ ?_
    · rintro b a w' ⟨v, ha, Q_FF, Q_F0, Q_F1, Q_F3, Q_FV⟩ hb_ hon hoff
      refine ⟨_, rfl, fun K hK => ?_⟩
      have e0 : a.tmps[0]? = some (.pointer (some ⟨q, 0, none⟩)) := by rw [ha]; exact (putSel_off rfl).trans rfl
      replace ha := Aside0.mk ha
      have FF := Aside0.mk Q_FF
      refine value_ (w1 := w') (v := .pointer (some ⟨q, 0, none⟩)) (by rfl) rfl ?_ ?_
      · go_simp
        (try simp only [i64_w])
        try rfl
      refine hK.out _ _ ⟨v, (by rw [ha.out]; exact putSel_upk 2 hb_ rfl rfl rfl), Q_FF, Q_F0, Q_F1, fun h0_ => absurd ((hoff 16 (by kernel_rfl)).symm.trans h0_) (by decide), Q_FV⟩
    refine steps_cons ?_ ?_
    · rintro b a w' ⟨v, ha, Q_FF, Q_F0, Q_F1, Q_F3, Q_FV⟩ hb_ hon hoff
      refine ⟨_, rfl, fun K hK => ?_⟩
      have e5 : a.tmps[5]? = some (.int .i64 (k : Int)) := by rw [ha]; exact (putSel_off rfl).trans rfl
      replace ha := Aside0.mk ha
      have FF := Aside0.mk Q_FF
      refine value_ (w1 := w') (v := .int .i64 (k : Int)) (by rfl) rfl ?_ ?_
      · go_simp
        (try simp only [i64_w])
        try rfl
      refine hK.out _ _ ⟨v, (by rw [ha.out]; exact putSel_upk 3 hb_ rfl rfl rfl), Q_FF, Q_F0, Q_F1, fun h0_ => absurd ((hoff 16 (by kernel_rfl)).symm.trans h0_) (by decide), Q_FV⟩
    refine steps_cons ?_ ?_
    · rintro b a w' ⟨v, ha, Q_FF, Q_F0, Q_F1, Q_F3, Q_FV⟩ hb_ hon hoff
      refine ⟨_, rfl, fun K hK => ?_⟩
      have e3 : a.tmps[3]? = some (.pointer (some ⟨cb, 0, none⟩)) := by rw [ha]; exact (putSel_off rfl).trans rfl
      replace ha := Aside0.mk ha
      have FF := Aside0.mk Q_FF
      have F0 := Aside0.mk (Q_F0 (hoff 12 (by kernel_rfl)))
      refine value_ (w1 := w') (v := .pointer (some ⟨cb, 1, none⟩)) (by rfl) rfl ?_ ?_
      · go_simp
        (try simp only [i64_w])
        try rfl
      refine hK.out _ _ ⟨v, (by rw [ha.out]; exact putSel_upk 4 hb_ rfl rfl rfl), Q_FF, Q_F0, fun h0_ _ => absurd ((hoff 12 (by kernel_rfl)).symm.trans h0_) (by decide), fun h0_ => absurd ((hoff 16 (by kernel_rfl)).symm.trans h0_) (by decide), fun h0_ => absurd ((hoff 6 (by kernel_rfl)).symm.trans h0_) (by decide)⟩
    refine steps_cons ?_ ?_
    · rintro b a w' ⟨v, ha, Q_FF, Q_F0, Q_F1, Q_F3, Q_FV⟩ hb_ hon hoff
      refine ⟨_, rfl, fun K hK => ?_⟩
      have e34 : a.tmps[34]? = some (.pointer (some ⟨cb, 1, none⟩)) := by rw [ha]; exact putSel_on (e := (4, 34, .pointer (some ⟨cb, 1, none⟩))) 4 rfl rfl (hon 4 (by kernel_rfl)) rfl
      replace ha := Aside0.mk ha
      have FF := Aside0.mk Q_FF
      have F0 := Aside0.mk (Q_F0 (hoff 12 (by kernel_rfl)))
      have hc1 := cellOf (FF.out.blk HCB.out hcq) 1
      refine value_ (w1 := w') (v := .slice A m c) (by rfl) rfl ?_ ?_
      · go_simp
        (try simp only [i64_w])
        try rfl
      refine hK.out _ _ ⟨v, (by rw [ha.out]; exact putSel_upk 5 hb_ rfl rfl rfl), Q_FF, Q_F0, fun h0_ _ => absurd ((hoff 12 (by kernel_rfl)).symm.trans h0_) (by decide), fun h0_ => absurd ((hoff 16 (by kernel_rfl)).symm.trans h0_) (by decide), fun h0_ => absurd ((hoff 6 (by kernel_rfl)).symm.trans h0_) (by decide)⟩
    refine steps_cons ?_ ?_
    · rintro b a w' ⟨v, ha, Q_FF, Q_F0, Q_F1, Q_F3, Q_FV⟩ hb_ hon hoff
      refine ⟨_, rfl, fun K hK => ?_⟩
      have e35 : a.tmps[35]? = some (.slice A m c) := by rw [ha]; exact putSel_on (e := (5, 35, .slice A m c)) 5 rfl rfl (hon 5 (by kernel_rfl)) rfl
      replace ha := Aside0.mk ha
      have FF := Aside0.mk Q_FF
      have F0 := Aside0.mk (Q_F0 (hoff 12 (by kernel_rfl)))
      refine goes_ Tryz.func21 (by kernel_rfl) rfl #[.slice A m c] (by rfl) rfl rfl (by first | (simp only [List.map_toArray, List.map_cons, List.map_nil, Act.eval, Array.getD_eq_getD_getElem?, Option.getD_some, e35]; done) | (simp only [List.map_toArray, List.map_cons, List.map_nil, Act.eval, Array.getD_eq_getD_getElem?, Option.getD_some, e35]; rfl)) ?_
      refine Calls.mono (HCL.out w' FF.out) ?_
      rintro e wX ⟨v1, rfl, hcv, hb⟩
      have hff := FF.out.trans (Foot.ofBelow hb (fun i => i = q)) (fun i hi => .inl hi)
      refine ⟨_, rfl, ?_⟩
      refine hK.out _ _ ⟨v1, (by rw [ha.out]; exact putSel_upk 6 hb_ rfl rfl rfl), hff, fun _ => F0.out.below hb, fun h0_ _ => absurd ((hoff 12 (by kernel_rfl)).symm.trans h0_) (by decide), fun h0_ => absurd ((hoff 16 (by kernel_rfl)).symm.trans h0_) (by decide), fun _ => hcv⟩
    refine steps_cons ?_ ?_
    · rintro b a w' ⟨v, ha, Q_FF, Q_F0, Q_F1, Q_F3, Q_FV⟩ hb_ hon hoff
      refine ⟨_, rfl, fun K hK => ?_⟩
      have e3 : a.tmps[3]? = some (.pointer (some ⟨cb, 0, none⟩)) := by rw [ha]; exact (putSel_off rfl).trans rfl
      replace ha := Aside0.mk ha
      have FF := Aside0.mk Q_FF
      refine value_ (w1 := w') (v := .pointer (some ⟨cb, 0, none⟩)) (by rfl) rfl ?_ ?_
      · go_simp
        (try simp only [i64_w])
        try rfl
      refine hK.out _ _ ⟨v, (by rw [ha.out]; exact putSel_upk 7 hb_ rfl rfl rfl), Q_FF, Q_F0, Q_F1, fun h0_ => absurd ((hoff 16 (by kernel_rfl)).symm.trans h0_) (by decide), Q_FV⟩
    refine steps_cons ?_ ?_
    · rintro b a w' ⟨v, ha, Q_FF, Q_F0, Q_F1, Q_F3, Q_FV⟩ hb_ hon hoff
      refine ⟨_, rfl, fun K hK => ?_⟩
      have e37 : a.tmps[37]? = some (.pointer (some ⟨cb, 0, none⟩)) := by rw [ha]; exact putSel_on (e := (7, 37, .pointer (some ⟨cb, 0, none⟩))) 7 rfl rfl (hon 7 (by kernel_rfl)) rfl
      replace ha := Aside0.mk ha
      have FF := Aside0.mk Q_FF
      have hc0 := cellOf (FF.out.blk HCB.out hcq) 0
      refine value_ (w1 := w') (v := .int .i64 p) (by rfl) rfl ?_ ?_
      · go_simp
        (try simp only [i64_w])
        try rfl
      refine hK.out _ _ ⟨v, (by rw [ha.out]; exact putSel_upk 8 hb_ rfl rfl rfl), Q_FF, Q_F0, Q_F1, fun h0_ => absurd ((hoff 16 (by kernel_rfl)).symm.trans h0_) (by decide), Q_FV⟩
    refine steps_cons ?_ ?_
    · rintro b a w' ⟨v, ha, Q_FF, Q_F0, Q_F1, Q_F3, Q_FV⟩ hb_ hon hoff
      refine ⟨_, rfl, fun K hK => ?_⟩
      have e30 : a.tmps[30]? = some (.pointer (some ⟨q, 0, none⟩)) := by rw [ha]; exact putSel_on (e := (0, 30, .pointer (some ⟨q, 0, none⟩))) 0 rfl rfl (hon 0 (by kernel_rfl)) rfl
      replace ha := Aside0.mk ha
      have FF := Aside0.mk Q_FF
      have F0 := Aside0.mk (Q_F0 (hoff 12 (by kernel_rfl)))
      refine value_ (w1 := w') (v := .pointer (some ⟨q, 0, none⟩)) (by rfl) rfl ?_ ?_
      · go_simp
        (try simp only [i64_w])
        try rfl
      refine hK.out _ _ ⟨v, (by rw [ha.out]; exact putSel_upk 9 hb_ rfl rfl rfl), Q_FF, Q_F0, fun h0_ _ => absurd ((hoff 12 (by kernel_rfl)).symm.trans h0_) (by decide), fun h0_ => absurd ((hoff 16 (by kernel_rfl)).symm.trans h0_) (by decide), Q_FV⟩
    refine steps_cons ?_ ?_
    · rintro b a w' ⟨v, ha, Q_FF, Q_F0, Q_F1, Q_F3, Q_FV⟩ hb_ hon hoff
      refine ⟨_, rfl, fun K hK => ?_⟩
      have e39 : a.tmps[39]? = some (.pointer (some ⟨q, 0, none⟩)) := by rw [ha]; exact putSel_on (e := (9, 39, .pointer (some ⟨q, 0, none⟩))) 9 rfl rfl (hon 9 (by kernel_rfl)) rfl
      replace ha := Aside0.mk ha
      have FF := Aside0.mk Q_FF
      have F0 := Aside0.mk (Q_F0 (hoff 12 (by kernel_rfl)))
      refine value_ (w1 := w') (v := .pointer (some ⟨q, 2, none⟩)) (by rfl) rfl ?_ ?_
      · go_simp
        (try simp only [i64_w])
        try rfl
      refine hK.out _ _ ⟨v, (by rw [ha.out]; exact putSel_upk 10 hb_ rfl rfl rfl), Q_FF, Q_F0, fun h0_ _ => absurd ((hoff 12 (by kernel_rfl)).symm.trans h0_) (by decide), fun h0_ => absurd ((hoff 16 (by kernel_rfl)).symm.trans h0_) (by decide), Q_FV⟩
    refine steps_cons ?_ ?_
    · rintro b a w' ⟨v, ha, Q_FF, Q_F0, Q_F1, Q_F3, Q_FV⟩ hb_ hon hoff
      refine ⟨_, rfl, fun K hK => ?_⟩
      have e40 : a.tmps[40]? = some (.pointer (some ⟨q, 2, none⟩)) := by rw [ha]; exact putSel_on (e := (10, 40, .pointer (some ⟨q, 2, none⟩))) 10 rfl rfl (hon 10 (by kernel_rfl)) rfl
      have e31 : a.tmps[31]? = some (.int .i64 (k : Int)) := by rw [ha]; exact putSel_on (e := (1, 31, .int .i64 (k : Int))) 1 rfl rfl (hon 1 (by kernel_rfl)) rfl
      replace ha := Aside0.mk ha
      have FF := Aside0.mk Q_FF
      have F0 := Aside0.mk (Q_F0 (hoff 12 (by kernel_rfl)))
      have FV := Aside0.mk (Q_FV (hon 6 (by kernel_rfl)))
      refine value_ (w1 := w') (v := .pointer (some ⟨q, 2 + k, none⟩)) (by rfl) rfl ?_ ?_
      · go_simp
        (try simp only [i64_w])
        try rfl
      refine hK.out _ _ ⟨v, (by rw [ha.out]; exact putSel_upk 11 hb_ rfl rfl rfl), Q_FF, Q_F0, fun h0_ _ => absurd ((hoff 12 (by kernel_rfl)).symm.trans h0_) (by decide), fun h0_ => absurd ((hoff 16 (by kernel_rfl)).symm.trans h0_) (by decide), Q_FV⟩
    refine steps_cons ?_ ?_
    · rintro b a w' ⟨v, ha, Q_FF, Q_F0, Q_F1, Q_F3, Q_FV⟩ hb_ hon hoff
      refine ⟨_, rfl, fun K hK => ?_⟩
      have e41 : a.tmps[41]? = some (.pointer (some ⟨q, 2 + k, none⟩)) := by rw [ha]; exact putSel_on (e := (11, 41, .pointer (some ⟨q, 2 + k, none⟩))) 11 rfl rfl (hon 11 (by kernel_rfl)) rfl
      have e36 : a.tmps[36]? = some (v) := by rw [ha]; exact putSel_on (e := (6, 36, v)) 6 rfl rfl (hon 6 (by kernel_rfl)) rfl
      replace ha := Aside0.mk ha
      have FF := Aside0.mk Q_FF
      have F0 := Aside0.mk (Q_F0 hb_)
      have FV := Aside0.mk (Q_FV (hon 6 (by kernel_rfl)))
      have hff := FF.out.setCell (p := ⟨q, 2 + k, none⟩) (.inl rfl) v
      have hft := (Foot.refl (fun i => i = q) w').setCell (p := ⟨q, 2 + k, none⟩) (.inl rfl) v
      have hfr_ := F0.out.frozen (2 + k)
      have hcc_ := F0.out.cRing k hk64
      refine skip_ (w1 := w'.setCell ⟨q, 2 + k, none⟩ v) (by rfl) rfl ?_ ?_
      · obtain ⟨⟨vA, vc, rfl, _⟩, _⟩ := FV.out
        go_simp
        try rfl
      refine hK.out _ _ ⟨v, (by rw [ha.out]; exact putSel_none (v := undef) rfl), hff, fun h0_ => absurd ((up_self b 12).symm.trans h0_) (by decide), fun _ _ => F0.out.setRing k hk64 v, fun h0_ => absurd ((hoff 16 (by kernel_rfl)).symm.trans h0_) (by decide), fun _ => FV.out.footq hft⟩
    refine steps_cons ?_ ?_
    · rintro b a w' ⟨v, ha, Q_FF, Q_F0, Q_F1, Q_F3, Q_FV⟩ hb_ hon hoff
      refine ⟨_, rfl, fun K hK => ?_⟩
      have e32 : a.tmps[32]? = some (.pointer (some ⟨q, 0, none⟩)) := by rw [ha]; exact putSel_on (e := (2, 32, .pointer (some ⟨q, 0, none⟩))) 2 rfl rfl (hon 2 (by kernel_rfl)) rfl
      replace ha := Aside0.mk ha
      have FF := Aside0.mk Q_FF
      refine value_ (w1 := w') (v := .pointer (some ⟨q, 0, none⟩)) (by rfl) rfl ?_ ?_
      · go_simp
        (try simp only [i64_w])
        try rfl
      refine hK.out _ _ ⟨v, (by rw [ha.out]; exact putSel_upk 12 hb_ rfl rfl rfl), Q_FF, Q_F0, Q_F1, fun h0_ => absurd ((hoff 16 (by kernel_rfl)).symm.trans h0_) (by decide), Q_FV⟩
    refine steps_cons ?_ ?_
    · rintro b a w' ⟨v, ha, Q_FF, Q_F0, Q_F1, Q_F3, Q_FV⟩ hb_ hon hoff
      refine ⟨_, rfl, fun K hK => ?_⟩
      have e42 : a.tmps[42]? = some (.pointer (some ⟨q, 0, none⟩)) := by rw [ha]; exact putSel_on (e := (13, 42, .pointer (some ⟨q, 0, none⟩))) 12 rfl rfl (hon 13 (by kernel_rfl)) rfl
      replace ha := Aside0.mk ha
      have FF := Aside0.mk Q_FF
      refine value_ (w1 := w') (v := .pointer (some ⟨q, 66, none⟩)) (by rfl) rfl ?_ ?_
      · go_simp
        (try simp only [i64_w])
        try rfl
      refine hK.out _ _ ⟨v, (by rw [ha.out]; exact putSel_upk 13 hb_ rfl rfl rfl), Q_FF, Q_F0, Q_F1, fun h0_ => absurd ((hoff 16 (by kernel_rfl)).symm.trans h0_) (by decide), Q_FV⟩
    refine steps_cons ?_ ?_
    · rintro b a w' ⟨v, ha, Q_FF, Q_F0, Q_F1, Q_F3, Q_FV⟩ hb_ hon hoff
      refine ⟨_, rfl, fun K hK => ?_⟩
      have e43 : a.tmps[43]? = some (.pointer (some ⟨q, 66, none⟩)) := by rw [ha]; exact putSel_on (e := (14, 43, .pointer (some ⟨q, 66, none⟩))) 13 rfl rfl (hon 14 (by kernel_rfl)) rfl
      have e33 : a.tmps[33]? = some (.int .i64 (k : Int)) := by rw [ha]; exact putSel_on (e := (3, 33, .int .i64 (k : Int))) 3 rfl rfl (hon 3 (by kernel_rfl)) rfl
      replace ha := Aside0.mk ha
      have FF := Aside0.mk Q_FF
      have F1 := Aside0.mk (Q_F1 (hon 12 (by kernel_rfl)) (hoff 16 (by kernel_rfl)))
      have FV := Aside0.mk (Q_FV (hon 6 (by kernel_rfl)))
      refine value_ (w1 := w') (v := .pointer (some ⟨q, 66 + k, none⟩)) (by rfl) rfl ?_ ?_
      · go_simp
        (try simp only [i64_w])
        try rfl
      refine hK.out _ _ ⟨v, (by rw [ha.out]; exact putSel_upk 14 hb_ rfl rfl rfl), Q_FF, fun h0_ => absurd ((hon 12 (by kernel_rfl)).symm.trans h0_) (by decide), Q_F1, fun h0_ => absurd ((hoff 16 (by kernel_rfl)).symm.trans h0_) (by decide), Q_FV⟩
    refine steps_cons ?_ ?_
    · rintro b a w' ⟨v, ha, Q_FF, Q_F0, Q_F1, Q_F3, Q_FV⟩ hb_ hon hoff
      refine ⟨_, rfl, fun K hK => ?_⟩
      have e44 : a.tmps[44]? = some (.pointer (some ⟨q, 66 + k, none⟩)) := by rw [ha]; exact putSel_on (e := (15, 44, .pointer (some ⟨q, 66 + k, none⟩))) 14 rfl rfl (hon 15 (by kernel_rfl)) rfl
      have e38 : a.tmps[38]? = some (.int .i64 p) := by rw [ha]; exact putSel_on (e := (8, 38, .int .i64 p)) 8 rfl rfl (hon 8 (by kernel_rfl)) rfl
      replace ha := Aside0.mk ha
      have FF := Aside0.mk Q_FF
      have F1 := Aside0.mk (Q_F1 (hon 12 (by kernel_rfl)) hb_)
      have FV := Aside0.mk (Q_FV (hon 6 (by kernel_rfl)))
      have hff := FF.out.setCell (p := ⟨q, 66 + k, none⟩) (.inl rfl) (.int .i64 p)
      have hft := (Foot.refl (fun i => i = q) w').setCell (p := ⟨q, 66 + k, none⟩) (.inl rfl) (.int .i64 p)
      have hfr_ := F1.out.frozen (66 + k)
      have hcc_ := F1.out.cPort k hk64
      refine skip_ (w1 := w'.setCell ⟨q, 66 + k, none⟩ (.int .i64 p)) (by rfl) rfl ?_ ?_
      · go_simp
        try rfl
      refine hK.out _ _ ⟨v, (by rw [ha.out]; exact putSel_none (v := undef) rfl), hff, fun h0_ => absurd ((hon 12 (by kernel_rfl)).symm.trans h0_) (by decide), fun _ h1_ => absurd ((up_self b 16).symm.trans h1_) (by decide), fun _ => F1.out.setPort k hk64 p, fun _ => FV.out.footq hft⟩
    exact steps_nil
  · rintro b a w' hall ⟨v, ha, Q_FF, Q_F0, Q_F1, Q_F3, Q_FV⟩
    clear F0 FF
    have hb0_ := hall 0 (by kernel_rfl)
    have hb1_ := hall 1 (by kernel_rfl)
    have hb2_ := hall 2 (by kernel_rfl)
    have hb3_ := hall 3 (by kernel_rfl)
    have hb4_ := hall 4 (by kernel_rfl)
    have hb5_ := hall 5 (by kernel_rfl)
    have hb6_ := hall 6 (by kernel_rfl)
    have hb7_ := hall 7 (by kernel_rfl)
    have hb8_ := hall 8 (by kernel_rfl)
    have hb9_ := hall 9 (by kernel_rfl)
    have hb10_ := hall 10 (by kernel_rfl)
    have hb11_ := hall 11 (by kernel_rfl)
    have hb12_ := hall 12 (by kernel_rfl)
    have hb13_ := hall 13 (by kernel_rfl)
    have hb14_ := hall 14 (by kernel_rfl)
    have hb15_ := hall 15 (by kernel_rfl)
    have hb16_ := hall 16 (by kernel_rfl)
    subst ha
    simp only [putSel, hb0_, hb1_, hb2_, hb3_, hb4_, hb5_, hb6_, hb7_, hb8_, hb9_, hb10_, hb11_, hb12_, hb13_, hb14_, hb15_, hb16_, if_true, Act.put, List.setIfInBounds_toArray, List.set_cons_zero, List.set_cons_succ]
    have FF := Aside0.mk Q_FF
    clear Q_FF
    clear Q_F0
    clear Q_F1
    have F3 := Aside0.mk (Q_F3 hb16_)
    clear Q_F3
    have FV := Aside0.mk (Q_FV hb6_)
    clear Q_FV
    clear hall hb0_ hb1_ hb2_ hb3_ hb4_ hb5_ hb6_ hb7_ hb8_ hb9_ hb10_ hb11_ hb12_ hb13_ hb14_ hb15_ hb16_
    have h1 := F3.out.cN
    have h5 := F3.out.frozen 131
    have hw1 : IntKind.i64.wrap ((n : Int) + 1) = ((n + 1 : Nat) : Int) := by rw [IntKind.wrap_i64]; omega
    have hfin := (FF.out.setCell (p := ⟨q, 131, none⟩) (.inl rfl) (.int .i64 ((n + 1 : Nat) : Int)))
    have hft := ((Foot.refl (fun i => i = q) w').setCell (p := ⟨q, 131, none⟩) (.inl rfl) (.int .i64 ((n + 1 : Nat) : Int)))
    generalize hnn : ((n + 1 : Nat) : Int) = nn at *
    have HN := aside' hnn
    clear hnn
    go_wp2
    go_ret
    have hN := F3.out.setN (n + 1)
    rw [HN.out] at hN
    exact ⟨v, rfl, hN, FV.out.footq hft, HB.out.trans hfin (fun i hi => .inl hi)⟩
/-- The ring's values, in order. -/
def ringL (ring : List Value) (fr k : Nat) : List Value := (List.range k).map fun j => ring.getD ((fr + j) % 64) (.slice none 0 0)
theorem ringL_length (ring : List Value) (fr k : Nat) : (ringL ring fr k).length = k := by simp [ringL]
theorem ringL_get (ring : List Value) (fr k j : Nat) (h : j < k) : (ringL ring fr k).getD j (.slice none 0 0) = ring.getD ((fr + j) % 64) (.slice none 0 0) := by
  simp [ringL, List.getD_eq_getElem?_getD, h]
/-- Put, of what waits. -/
theorem Put_at (w : World) (q room : Nat) (ring : List Value) (ports : List Int) (fr : Nat) (L : List Cp) (h : QAt w q room ring ports fr L) (hn : L.length < room) (p : Int) (A : Option Addr) (m c : Nat) (xs : List Int)
    (hS : Reads w .u8 A m xs) (hm : m ≤ 140737488351232) (hA : A = none → c = 0) (hAq : ∀ ad, A = some ad → 0 < m → ad.block ≠ q) :
    Calls Tryz.prog 8 #[.pointer (some ⟨q, 0, none⟩), .agg #[.int .i64 p, .slice A m c]] w fun e w' => e = .returned (.int .i64 0) ∧ (∃ ring' ports', QAt w' q room ring' ports' fr (L ++ [(p, xs)]) ∧ ∃ v, ringL ring' fr (L.length + 1) = ringL ring fr L.length ++ [v] ∧ CpF w.heap.size w' q v xs) ∧ Foot (fun i => i = q) w w' := by
  refine (Put_ok w q room ring ports fr L.length h.box hn h.hroom h.hfr p A m c xs hS hm hA hAq).mono ?_
  rintro e w' ⟨v, rfl, hB, hC, hF⟩
  have hfr := h.hfr
  have hroom := h.hroom
  have hr := h.box.hr
  have hp := h.box.hq
  have hk : (fr + L.length) % 64 < 64 := Nat.mod_lt _ (by omega)
  have e2' : (ring.set ((fr + L.length) % 64) v).getD ((fr + L.length) % 64) (.slice none 0 0) = v := by simp [List.getD_eq_getElem?_getD, hr, hk]
  have hrest : ∀ j, j < L.length → (ring.set ((fr + L.length) % 64) v).getD ((fr + j) % 64) (.slice none 0 0) = ring.getD ((fr + j) % 64) (.slice none 0 0) := fun j hjl => by
    have hne : ¬ (fr + L.length) % 64 = (fr + j) % 64 := by omega
    simp only [List.getD_eq_getElem?_getD, List.getElem?_set_ne hne]
  refine ⟨rfl, ⟨_, _, ⟨by simpa using hB, h.hfr, by simp; omega, h.hroom, fun j hj => ?_⟩, v, ?_, hC⟩, hF⟩
  · simp only [List.length_append, List.length_singleton] at hj
    by_cases hjl : j < L.length
    · have hne : ¬ (fr + L.length) % 64 = (fr + j) % 64 := by omega
      obtain ⟨d1, d2⟩ := h.data j hjl
      have e1 : (ports.set ((fr + L.length) % 64) p).getD ((fr + j) % 64) 0 = ports.getD ((fr + j) % 64) 0 := by simp only [List.getD_eq_getElem?_getD, List.getElem?_set_ne hne]
      have e3 : (L ++ [(p, xs)]).getD j zCp = L.getD j zCp := by simp only [List.getD_eq_getElem?_getD, List.getElem?_append_left hjl]
      rw [e1, hrest j hjl, e3]
      exact ⟨d1, d2.footq hF⟩
    · obtain rfl : j = L.length := by omega
      have e1 : (ports.set ((fr + L.length) % 64) p).getD ((fr + L.length) % 64) 0 = p := by simp [List.getD_eq_getElem?_getD, hp, hk]
      have e3 : (L ++ [(p, xs)]).getD L.length zCp = (p, xs) := by simp
      rw [e1, e2', e3]
      exact ⟨rfl, hC.1⟩
  · simp only [ringL, List.range_succ, List.map_append, List.map_cons, List.map_nil, e2']
    congr 1
    exact List.map_congr_left (fun j hj => hrest j (List.mem_range.1 hj))
end Go.Proofs.YtdgilloblfbklabGreatDoor.Own
