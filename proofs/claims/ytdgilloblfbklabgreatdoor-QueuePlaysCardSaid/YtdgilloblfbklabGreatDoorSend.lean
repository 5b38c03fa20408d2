/-
  Queue.Send.
-/
import Derived.Test.YtdgilloblfbklabGreatDoorSendA
import Derived.Test.YtdgilloblfbklabGreatDoorWInv
import Derived.Test.YtdgilloblfbklabGreatDoorWInvWords
set_option linter.unusedVariables false
set_option linter.unusedSimpArgs false
namespace Go.Proofs.YtdgilloblfbklabGreatDoor.Own
open Go.RowKit Go.Proofs.YtdgilloblfbklabGreatDoorW.PrintLast
open Go.Proofs.YtdgilloblfbklabGreatDoorW.PrintWords (Aside0)

/-- What Send's loop holds: t copies are out. -/
structure SendAt (w : World) (q room : Nat) (ring : List Value) (ports : List Int) (fr : Nat) (L : List Cp) (t : Nat) (v : Value) (wr : World) : Prop where
  ht : t ≤ L.length
  box : ∃ ring', QBox wr q room ring' ports ((fr + t) % 64) (L.length - t) ∧ ∀ j, t ≤ j → j < L.length → ring'.getD ((fr + j) % 64) (.slice none 0 0) = ring.getD ((fr + j) % 64) (.slice none 0 0)
  foot : Foot (fun i => i = q) w wr
  out : ∃ O : List (Int × Value), O.length = t ∧ wr.ownsRow w.heap.size 37 2 v t (outCells O) ∧ ∀ j, j < t → (O.getD j (0, .slice none 0 0)).1 = (L.getD j zCp).1 ∧ ClAt w q (ring.getD ((fr + j) % 64) (.slice none 0 0)) (O.getD j (0, .slice none 0 0)).2 (L.getD j zCp).2

section
variable {w : World} {q room : Nat} {ring : List Value} {ports : List Int} {fr : Nat} {L : List Cp} {t : Nat}
theorem own_clip {w : World} {base n t c : Nat} {A : Option Addr} {e : TypeId} {size : Nat} {xs : List Value} (h : w.ownsRow base e size (.slice A t c) n xs) : t ≤ c ∧ c ≤ 9223372036854775807 ∧ (∀ ad, A = some ad → ad.spot = none) := by
  rcases h.2 with ⟨h1, h2⟩ | ⟨g, cap, cur, h1, h2, h3, h4, h5, _⟩
  · injection h1 with h1 h1' h1''; subst h1 h1' h1''; exact ⟨Nat.le_refl _, by omega, fun ad e => by cases e⟩
  · injection h1 with h1 h1' h1''; subst h1 h1' h1''; exact ⟨h4, by simpa [maxLen] using h5, fun ad e => by cases e; rfl⟩
theorem SendAt.next (H : QAt w q room ring ports fr L) {v : Value} {wr : World} (HS : SendAt w q room ring ports fr L t v wr) (htl : t < L.length) {k k2 n' : Nat} (hk64 : k < 64) (hk : k = (fr + t) % 64) (hn' : L.length - t = n' + 1) {p : Int} (hp : p = (L.getD t zCp).1) {ring' : List Value} {O : List (Int × Value)} {u : Value} {v2 : Value} {W2 : World}
    (hrg : (∀ j, t ≤ j → j < L.length → ring'.getD ((fr + j) % 64) (.slice none 0 0) = ring.getD ((fr + j) % 64) (.slice none 0 0)) ∧ O.length = t ∧ ∀ j, j < t → (O.getD j (0, .slice none 0 0)).1 = (L.getD j zCp).1 ∧ ClAt w q (ring.getD ((fr + j) % 64) (.slice none 0 0)) (O.getD j (0, .slice none 0 0)).2 (L.getD j zCp).2)
    (hk2 : k2 = (k + 1) % 64) (hB : QBox W2 q room (ring'.set k (.slice none 0 0)) ports k (n' + 1)) (hF : Foot (fun i => i = q) w W2) (hO : W2.ownsRow w.heap.size 37 2 v2 (t + 1) (outCells (O ++ [(p, u)]))) (hC : ClAt w q (ring.getD ((fr + t) % 64) (.slice none 0 0)) u (L.getD t zCp).2) :
    SendAt w q room ring ports fr L (t + 1) v2 (((W2.setCell ⟨q, 130, none⟩ (.int .i64 (k2 : Int))).setCell ⟨q, 131, none⟩ (.int .i64 (n' : Int))).drew.drew) := by
  have hq0 := H.box.lt
  have hLr : L.length ≤ 64 := Nat.le_trans H.hL H.hroom
  have hfr := H.hfr
  obtain ⟨h1, h2, h3⟩ := hrg
  have hFt := (((Foot.refl (fun i => i = q) W2).setCell (p := ⟨q, 130, none⟩) (.inl rfl) (.int .i64 (k2 : Int))).setCell (p := ⟨q, 131, none⟩) (.inl rfl) (.int .i64 (n' : Int))).drew.drew
  refine ⟨by omega, ⟨ring'.set k (.slice none 0 0), ?_, fun j h4 h5 => ?_⟩, ((hF.setCell (p := ⟨q, 130, none⟩) (.inl rfl) (.int .i64 (k2 : Int))).setCell (p := ⟨q, 131, none⟩) (.inl rfl) (.int .i64 (n' : Int))).drew.drew, O ++ [(p, u)], by simp [h2], hFt.own hO (fun i hi hiq => absurd (own_blk hO i hi) (by rw [hiq]; exact Nat.not_le.2 hq0)), fun j hj => ?_⟩
  · rw [show (fr + (t + 1)) % 64 = k2 by omega, show L.length - (t + 1) = n' by omega]
    exact ((hB.setFr k2).setN n').drew.drew
  · have hne : ¬ k = (fr + j) % 64 := by omega
    rw [← h1 j (by omega) h5]
    simp only [List.getD_eq_getElem?_getD, List.getElem?_set_ne hne]
  · by_cases hjt : j < t
    · have e3 : (O ++ [(p, u)]).getD j (0, .slice none 0 0) = O.getD j (0, .slice none 0 0) := by simp only [List.getD_eq_getElem?_getD, List.getElem?_append_left (h2 ▸ hjt : j < O.length)]
      rw [e3]
      exact h3 j hjt
    · obtain rfl : j = t := by omega
      have e3 : (O ++ [(p, u)]).getD j (0, .slice none 0 0) = (p, u) := by simp [List.getD_eq_getElem?_getD, ← h2]
      rw [e3]
      exact ⟨hp, hC⟩
theorem SendAt.fin (H : QAt w q room ring ports fr L) {A : Option Addr} {c : Nat} {wr : World} {n : Nat} (HS : SendAt w q room ring ports fr L t (.slice A t c) wr) (h : t = n ∨ t = L.length) (htn : t ≤ n) :
    min n L.length = t ∧ CpsAt w.heap.size wr q A (L.take n) (ringL ring fr L.length) ∧ (∃ ring' ports' fr', QAt wr q room ring' ports' fr' (L.drop n) ∧ ringL ring' fr' (L.drop n).length = (ringL ring fr L.length).drop n) ∧ Foot (fun i => i = q) w wr := by
  have hq0 := H.box.lt
  have htL := HS.ht
  have hfr := H.hfr
  have hLr := H.hL
  have hroom := H.hroom
  have hmin : min n L.length = t := by omega
  obtain ⟨ring', hB, hrg⟩ := HS.box
  obtain ⟨O, hO1, hO2, hO3⟩ := HS.out
  have hlen : (L.take n).length = t := by simp; omega
  have hdl : (L.drop n).length = L.length - t := by simp; omega
  refine ⟨hmin, CpsAt.own hO2 hq0 hO1 hlen (fun j hj => ?_), ⟨ring', ports, (fr + t) % 64, ⟨by rw [hdl]; exact hB, Nat.mod_lt _ (by omega), by rw [hdl]; omega, hroom, fun j hj => ?_⟩, ?_⟩, HS.foot⟩
  · have e : (L.take n).getD j zCp = L.getD j zCp := by simp only [List.getD_eq_getElem?_getD, List.getElem?_take, if_pos (show j < n by omega)]
    rw [e, ringL_get _ _ _ _ (by omega)]
    exact ⟨(hO3 j hj).1, (hO3 j hj).2.footq HS.foot⟩
  · rw [hdl] at hj
    have hnt : n = t := by omega
    subst hnt
    have e : (L.drop n).getD j zCp = L.getD (n + j) zCp := by simp only [List.getD_eq_getElem?_getD, List.getElem?_drop]
    have e2 : ((fr + n) % 64 + j) % 64 = (fr + (n + j)) % 64 := by omega
    rw [e, e2, hrg (n + j) (by omega) (by omega)]
    exact ⟨(H.data (n + j) (by omega)).1, (H.data (n + j) (by omega)).2.footq HS.foot⟩
  · rw [hdl]
    rcases Nat.lt_or_ge t L.length with hlt | hge
    · have hnt : n = t := by omega
      subst hnt
      refine List.ext_getElem (by rw [List.length_drop, ringL_length, ringL_length]) (fun j h1 h2 => ?_)
      rw [ringL_length] at h1
      simp only [ringL, List.getElem_map, List.getElem_range, List.getElem_drop]
      rw [show (((fr + n) % 64 + j) % 64) = (fr + (n + j)) % 64 by omega]
      exact hrg (n + j) (by omega) (by omega)
    · rw [show L.length - t = 0 by omega, List.drop_eq_nil_of_le (by rw [ringL_length]; omega)]
      rfl
end
def send7.T7 : Bool × List (List Nat × List Nat) := (true, [([], []), ([], []), ([], []), ([2], [2]), ([3], [3]), ([4], [4]), ([1], [1]), ([6], [6]), ([7, 5], [5, 7]), ([8], [8]), ([], []), ([], []), ([11], [11]), ([12], [12]), ([13], [13]), ([10], [10]), ([15], [15]), ([16, 14], [14, 16]), ([17], [17]), ([18], [18]), ([9, 19], [9, 19]), ([20], [20]), ([0, 21, 19], [0, 21]), ([22, 22, 0, 1, 2, 3, 4, 5, 6, 7, 8, 9, 10, 11, 12, 13, 14, 15, 16, 17, 18, 19, 20, 21, 22], [0, 22])])
def send7.B7 : List Nat := [0, 0, 0, 4, 12, 28, 2, 66, 254, 510, 0, 0, 2048, 6144, 14336, 1024, 33792, 130048, 261120, 523264, 1048574, 2097150, 4194303, 8388607]
theorem send7.tab7 : rtab .any (opsOf Tryz.f7 7) = send7.T7 := by kernel_rfl
theorem send7.bits7 : waitsOk send7.T7.2 send7.B7 = true := by kernel_rfl
set_option maxRecDepth 100000 in
set_option maxHeartbeats 3200000 in
theorem Send_at (w : World) (q room : Nat) (ring : List Value) (ports : List Int) (fr : Nat) (L : List Cp) (h : QAt w q room ring ports fr L) (n : Nat) (hn : n ≤ 9223372036854775807) :
    Calls Tryz.prog 7 #[.pointer (some ⟨q, 0, none⟩), .int .i64 (n : Int)] w fun e w' => ∃ A, e = .returned (.tuple #[.slice A (min n L.length) (min n L.length), .int .i64 0]) ∧ CpsAt w.heap.size w' q A (L.take n) (ringL ring fr L.length) ∧ (∃ ring' ports' fr', QAt w' q room ring' ports' fr' (L.drop n) ∧ ringL ring' fr' (L.drop n).length = (ringL ring fr L.length).drop n) ∧ Foot (fun i => i = q) w w' := by
  have HT := aside' (there_ok w q room ring ports fr L.length h.box)
  have H := aside' h
  have h0 := aside' (show SendAt w q room ring ports fr L 0 (.slice none 0 0) w from ⟨Nat.zero_le _, ⟨ring, by rw [Nat.add_zero, Nat.mod_eq_of_lt h.hfr]; exact h.box, fun _ _ _ => rfl⟩, Foot.refl _ _, [], rfl, World.ownsRow_nil _ _ _ _, fun j hj => by omega⟩)
  have hLr : L.length ≤ 64 := Nat.le_trans h.hL h.hroom
  have hd0 : decide ((n : Int) < 0) = false := decide_eq_false (by omega)
  clear h
  go_enter Tryz.func7, Tryz.ntmps7
  go_wp2_with fail
  refine Calls.mono HT.out ?_
  rintro e w1 ⟨rfl, hw1⟩
  have hw1 := hw1.symm
  subst hw1
  go_wp2_with fail
  clear HT
  go_loopw [1, 4] (fun i v wr => ∃ (t : Nat) (u : Value), t ≤ n ∧ i = .int .i64 ((n - t : Nat) : Int) ∧ v = u ∧ Aside (SendAt w q room ring ports fr L t u wr)) (fun i _ _ => (intOf i).toNat)
  case atStart => exact ⟨0, _, Nat.zero_le _, rfl, rfl, h0⟩
  case round =>
    obtain ⟨t, v, htn, rfl, hu, HS⟩ := hrel
    have hu := hu.symm
    subst hu
    obtain ⟨ring', hB, hrg⟩ := HS.out.box
    have htL := HS.out.ht
    by_cases hlt : t < n
    · obtain ⟨r, hr⟩ : ∃ r : Nat, n - t = r + 1 := ⟨n - t - 1, by omega⟩
      rw [hr]
      have hr0 : decide ((0 : Int) < ((r + 1 : Nat) : Int)) = true := decide_eq_true (by omega)
      by_cases htl : t < L.length
      · obtain ⟨n', hn'⟩ : ∃ n' : Nat, L.length - t = n' + 1 := ⟨L.length - t - 1, by omega⟩
        obtain ⟨k, hk⟩ : ∃ k, k = (fr + t) % 64 := ⟨_, rfl⟩
        have hk64 : k < 64 := by omega
        rw [hn', ← hk] at hB
        obtain ⟨p, hp⟩ : ∃ p, p = (L.getD t zCp).1 := ⟨_, rfl⟩
        obtain ⟨d1, A, c, hv, hmc, hc63, hRD, hAsp, hFR⟩ := H.out.data t htl
        have HCLA := aside' (show ClAt w q (ring.getD ((fr + t) % 64) (.slice none 0 0)) (.slice A (L.getD t zCp).2.length (L.getD t zCp).2.length) (L.getD t zCp).2 from ⟨A, c, hv, rfl, (by rw [hv] at hFR; exact hFR.clip)⟩)
        clear hFR
        rw [← hk, ← hp] at d1
        rw [← hk] at hv
        have hrv := hrg t (Nat.le_refl _) htl
        rw [← hk, hv] at hrv
        generalize hm : (L.getD t zCp).2.length = m at *
        obtain ⟨O, hO1, hO2, hO3⟩ := HS.out.out
        have hqd := hB.drew
        have hcN := hB.cN
        have hcF := hqd.cFr
        have hcP := hqd.cPort k hk64
        rw [d1] at hcP
        have hcR := hqd.cRing k hk64
        rw [hrv] at hcR
        have hql := hB.lt
        have hq0 := H.out.box.lt
        have hal := (Below.refl wr.drew.heap.size wr.drew).alloc (Nat.le_refl _) (.cells #[.int .i64 p, .slice A m m] 37)
        have HCL := aside' (fun V => Clip_bytes A m c V hmc hc63 (fun ad e => (hAsp ad e).1))
        have HFW := aside' (show Foot (fun i => i = q) w (wr.drew.alloc (.cells #[.int .i64 p, .slice A m m] 37)) from (HS.out.foot.drew).alloc _)
        have HOB := aside' (show ∀ i, v.ownBlock = some i → w.heap.size ≤ i from fun i hi => own_blk hO2 i hi)
        have HQL := aside' hq0
        have HQA := aside' (show QBox (wr.drew.alloc (.cells #[.int .i64 p, .slice A m m] 37)) q room ring' ports k (n' + 1) from hqd.below hal)
        have HAP := aside' (run_append_cells (P := Tryz.prog) (W := wr.drew.alloc (.cells #[.int .i64 p, .slice A m m] 37)) w.heap.size 31 31 37 (.agg #[.int .i64 0, .slice none 0 0]) 2 32 Tryz.underlying31 infoCopy rfl (by decide) (by decide) v t (outCells O) [.int .i64 p, .slice A m m] (some ⟨wr.heap.size, 0, none⟩) 1 1 (own_alloc' (own_drew' hO2) _) (Cells.lit wr.drew 37 #[.int .i64 p, .slice A m m] 1 2 rfl (by simp [Value.oneCell'])) (by have := HS.out.foot.size; simp; omega) (by omega))
        rw [show outCells O ++ [.int .i64 p, .slice A m m] = outCells (O ++ [(p, .slice A m m)]) by rw [outCells_append]; rfl] at HAP
        have HHK := aside' (And.intro hk (And.intro hn' (And.intro hp hr)))
        have HRG := aside' (And.intro hrg (And.intro hO1 hO3))
        have hk0 : (0 : Int) ≤ (k : Int) := by omega
        have hk1 : (k : Int) < 64 := by omega
        have hd1 : decide ((0 : Int) < ((n' + 1 : Nat) : Int)) = true := decide_eq_true (by omega)
        clear hB hrg hO1 hO2 hO3 hk hn' hp hr hRD hAsp hv hrv hqd hal d1 hm
        generalize hni : ((n' + 1 : Nat) : Int) = ni at *
        generalize hri : ((r + 1 : Nat) : Int) = ri at *
        go_wp2_with fail
        have F0 := aside' trivial
        refine start_ (n := 24) (S := fun w' => True) (ds := []) #[false, false, false, false, false, false, false, false, false, false, false, false, false, false, false, false, false, false, false, false, false, false, false, false] (by kernel_rfl) rfl rfl trivial (fun hHeld => ?_)
        refine with_tabW send7.tab7 send7.bits7 (fun HT_ HW_ => ?_)
        refine inv_at [0, 1, 2, 3, 4, 5, 6, 7, 8, 9, 10, 11, 12, 13, 14, 15, 16, 17, 18, 19, 20, 21, 22, 23] (fun a0_ b a w' => ∃ (v2 : Value) (m23_ : Value), a = putSel a0_ b [(0, 24, v), (1, 25, .pointer (some ⟨q, 0, none⟩)), (2, 26, .pointer (some ⟨q, 0, none⟩)), (3, 27, .pointer (some ⟨q, 0, none⟩)), (4, 28, .pointer (some ⟨q, 130, none⟩)), (5, 29, .int .i64 (k : Int)), (6, 30, .pointer (some ⟨q, 0, none⟩)), (7, 31, .pointer (some ⟨q, 66, none⟩)), (8, 32, .pointer (some ⟨q, 66 + k, none⟩)), (9, 33, .int .i64 p), (10, 34, .pointer (some ⟨q, 0, none⟩)), (11, 35, .pointer (some ⟨q, 0, none⟩)), (12, 36, .pointer (some ⟨q, 0, none⟩)), (13, 37, .pointer (some ⟨q, 130, none⟩)), (14, 38, .int .i64 (k : Int)), (15, 39, .pointer (some ⟨q, 0, none⟩)), (16, 40, .pointer (some ⟨q, 2, none⟩)), (17, 41, .pointer (some ⟨q, 2 + k, none⟩)), (18, 42, .slice A m c), (19, 43, .slice A m m), (20, 44, .agg #[.int .i64 p, .slice A m m]), (21, 45, .slice (some ⟨wr.heap.size, 0, none⟩) 1 1), (22, 46, v2), (23, 4, m23_)] ∧ (b 21 = false → w' = wr.drew) ∧ (b 21 = true → b 22 = false → w' = wr.drew.alloc (.cells #[.int .i64 p, .slice A m m] 37)) ∧ (b 22 = true → w'.ownsRow w.heap.size 37 2 v2 (t + 1) (outCells (O ++ [(p, .slice A m m)]))) ∧ (b 22 = true → Foot (fun i => i = q) w w') ∧ (b 22 = true → QBox w' q room ring' ports k (n' + 1)) ∧ (b 23 = true → (m23_ : Value) = v2)) HT_.out HW_.out (by kernel_rfl) (by kernel_rfl) ?_ ?_ ?_
        · exact ⟨(.slice none 0 0), .bool false, by simp only [putSel, Bool.false_eq_true, if_false], fun _ => rfl, fun h_ => absurd h_ (by decide), fun h_ => absurd h_ (by decide), fun h_ => absurd h_ (by decide), fun h_ => absurd h_ (by decide), fun h_ => absurd h_ (by decide)⟩
        · skip
          clear F0
          refine steps_cons ?_ ?_
          · rintro b a w' ⟨v2, m23_, ha, Q_F0, Q_F1, Q_FO, Q_FF, Q_FQ, Q_X23_⟩ hb_ hon hoff
            refine ⟨_, rfl, fun K hK => ?_⟩
            have e4 : a.tmps[4]? = some (v) := by rw [ha]; exact (putSel_not (hoff 23 (by kernel_rfl)) rfl).trans rfl
            replace ha := Aside0.mk ha
            refine value_ (w1 := w') (v := v) (by rfl) rfl ?_ ?_
            · go_simp
              (try simp only [i64_w])
              try rfl
            refine hK.out _ _ ⟨v2, m23_, (by rw [ha.out]; exact putSel_upk 0 hb_ rfl rfl rfl), Q_F0, Q_F1, fun h0_ => absurd ((hoff 22 (by kernel_rfl)).symm.trans h0_) (by decide), fun h0_ => absurd ((hoff 22 (by kernel_rfl)).symm.trans h0_) (by decide), fun h0_ => absurd ((hoff 22 (by kernel_rfl)).symm.trans h0_) (by decide), fun h0_ => absurd ((hoff 23 (by kernel_rfl)).symm.trans h0_) (by decide)⟩
          refine steps_cons ?_ ?_
          · rintro b a w' ⟨v2, m23_, ha, Q_F0, Q_F1, Q_FO, Q_FF, Q_FQ, Q_X23_⟩ hb_ hon hoff
            refine ⟨_, rfl, fun K hK => ?_⟩
            have e0 : a.tmps[0]? = some (.pointer (some ⟨q, 0, none⟩)) := by rw [ha]; exact (putSel_off rfl).trans rfl
            replace ha := Aside0.mk ha
            have F0 := Aside0.mk (Q_F0 (hoff 21 (by kernel_rfl)))
            refine value_ (w1 := w') (v := .pointer (some ⟨q, 0, none⟩)) (by rfl) rfl ?_ ?_
            · go_simp
              (try simp only [i64_w])
              try rfl
            refine hK.out _ _ ⟨v2, m23_, (by rw [ha.out]; exact putSel_upk 1 hb_ rfl rfl rfl), Q_F0, fun h0_ _ => absurd ((hoff 21 (by kernel_rfl)).symm.trans h0_) (by decide), fun h0_ => absurd ((hoff 22 (by kernel_rfl)).symm.trans h0_) (by decide), fun h0_ => absurd ((hoff 22 (by kernel_rfl)).symm.trans h0_) (by decide), fun h0_ => absurd ((hoff 22 (by kernel_rfl)).symm.trans h0_) (by decide), fun h0_ => absurd ((hoff 23 (by kernel_rfl)).symm.trans h0_) (by decide)⟩
          refine steps_cons ?_ ?_
          · rintro b a w' ⟨v2, m23_, ha, Q_F0, Q_F1, Q_FO, Q_FF, Q_FQ, Q_X23_⟩ hb_ hon hoff
            refine ⟨_, rfl, fun K hK => ?_⟩
            have e0 : a.tmps[0]? = some (.pointer (some ⟨q, 0, none⟩)) := by rw [ha]; exact (putSel_off rfl).trans rfl
            replace ha := Aside0.mk ha
            have F0 := Aside0.mk (Q_F0 (hoff 21 (by kernel_rfl)))
            refine value_ (w1 := w') (v := .pointer (some ⟨q, 0, none⟩)) (by rfl) rfl ?_ ?_
            · go_simp
              (try simp only [i64_w])
              try rfl
            refine hK.out _ _ ⟨v2, m23_, (by rw [ha.out]; exact putSel_upk 2 hb_ rfl rfl rfl), Q_F0, fun h0_ _ => absurd ((hoff 21 (by kernel_rfl)).symm.trans h0_) (by decide), fun h0_ => absurd ((hoff 22 (by kernel_rfl)).symm.trans h0_) (by decide), fun h0_ => absurd ((hoff 22 (by kernel_rfl)).symm.trans h0_) (by decide), fun h0_ => absurd ((hoff 22 (by kernel_rfl)).symm.trans h0_) (by decide), fun h0_ => absurd ((hoff 23 (by kernel_rfl)).symm.trans h0_) (by decide)⟩
          refine steps_cons ?_ ?_
          · rintro b a w' ⟨v2, m23_, ha, Q_F0, Q_F1, Q_FO, Q_FF, Q_FQ, Q_X23_⟩ hb_ hon hoff
            refine ⟨_, rfl, fun K hK => ?_⟩
            have e26 : a.tmps[26]? = some (.pointer (some ⟨q, 0, none⟩)) := by rw [ha]; exact putSel_on (e := (2, 26, .pointer (some ⟨q, 0, none⟩))) 2 rfl rfl (hon 2 (by kernel_rfl)) rfl
            replace ha := Aside0.mk ha
            have F0 := Aside0.mk (Q_F0 (hoff 21 (by kernel_rfl)))
            refine value_ (w1 := w') (v := .pointer (some ⟨q, 0, none⟩)) (by rfl) rfl ?_ ?_
            · go_simp
              (try simp only [i64_w])
              try rfl
            refine hK.out _ _ ⟨v2, m23_, (by rw [ha.out]; exact putSel_upk 3 hb_ rfl rfl rfl), Q_F0, fun h0_ _ => absurd ((hoff 21 (by kernel_rfl)).symm.trans h0_) (by decide), fun h0_ => absurd ((hoff 22 (by kernel_rfl)).symm.trans h0_) (by decide), fun h0_ => absurd ((hoff 22 (by kernel_rfl)).symm.trans h0_) (by decide), fun h0_ => absurd ((hoff 22 (by kernel_rfl)).symm.trans h0_) (by decide), fun h0_ => absurd ((hoff 23 (by kernel_rfl)).symm.trans h0_) (by decide)⟩
          refine steps_cons ?_ ?_
          · rintro b a w' ⟨v2, m23_, ha, Q_F0, Q_F1, Q_FO, Q_FF, Q_FQ, Q_X23_⟩ hb_ hon hoff
            refine ⟨_, rfl, fun K hK => ?_⟩
            have e27 : a.tmps[27]? = some (.pointer (some ⟨q, 0, none⟩)) := by rw [ha]; exact putSel_on (e := (3, 27, .pointer (some ⟨q, 0, none⟩))) 3 rfl rfl (hon 3 (by kernel_rfl)) rfl
            replace ha := Aside0.mk ha
            have F0 := Aside0.mk (Q_F0 (hoff 21 (by kernel_rfl)))
            refine value_ (w1 := w') (v := .pointer (some ⟨q, 130, none⟩)) (by rfl) rfl ?_ ?_
            · go_simp
              (try simp only [i64_w])
              try rfl
            refine hK.out _ _ ⟨v2, m23_, (by rw [ha.out]; exact putSel_upk 4 hb_ rfl rfl rfl), Q_F0, fun h0_ _ => absurd ((hoff 21 (by kernel_rfl)).symm.trans h0_) (by decide), fun h0_ => absurd ((hoff 22 (by kernel_rfl)).symm.trans h0_) (by decide), fun h0_ => absurd ((hoff 22 (by kernel_rfl)).symm.trans h0_) (by decide), fun h0_ => absurd ((hoff 22 (by kernel_rfl)).symm.trans h0_) (by decide), fun h0_ => absurd ((hoff 23 (by kernel_rfl)).symm.trans h0_) (by decide)⟩
          refine steps_cons ?_ ?_
          · rintro b a w' ⟨v2, m23_, ha, Q_F0, Q_F1, Q_FO, Q_FF, Q_FQ, Q_X23_⟩ hb_ hon hoff
            refine ⟨_, rfl, fun K hK => ?_⟩
            have e28 : a.tmps[28]? = some (.pointer (some ⟨q, 130, none⟩)) := by rw [ha]; exact putSel_on (e := (4, 28, .pointer (some ⟨q, 130, none⟩))) 4 rfl rfl (hon 4 (by kernel_rfl)) rfl
            replace ha := Aside0.mk ha
            have F0 := Aside0.mk (Q_F0 (hoff 21 (by kernel_rfl)))
            have hc_ : w'.cell? ⟨q, 130, none⟩ = some (.int .i64 (k : Int)) := by rw [F0.out]; exact hcF
            refine value_ (w1 := w') (v := .int .i64 (k : Int)) (by rfl) rfl ?_ ?_
            · go_simp
              (try simp only [i64_w])
              try rfl
            refine hK.out _ _ ⟨v2, m23_, (by rw [ha.out]; exact putSel_upk 5 hb_ rfl rfl rfl), Q_F0, fun h0_ _ => absurd ((hoff 21 (by kernel_rfl)).symm.trans h0_) (by decide), fun h0_ => absurd ((hoff 22 (by kernel_rfl)).symm.trans h0_) (by decide), fun h0_ => absurd ((hoff 22 (by kernel_rfl)).symm.trans h0_) (by decide), fun h0_ => absurd ((hoff 22 (by kernel_rfl)).symm.trans h0_) (by decide), fun h0_ => absurd ((hoff 23 (by kernel_rfl)).symm.trans h0_) (by decide)⟩
          refine steps_cons ?_ ?_
          · rintro b a w' ⟨v2, m23_, ha, Q_F0, Q_F1, Q_FO, Q_FF, Q_FQ, Q_X23_⟩ hb_ hon hoff
            refine ⟨_, rfl, fun K hK => ?_⟩
            have e25 : a.tmps[25]? = some (.pointer (some ⟨q, 0, none⟩)) := by rw [ha]; exact putSel_on (e := (1, 25, .pointer (some ⟨q, 0, none⟩))) 1 rfl rfl (hon 1 (by kernel_rfl)) rfl
            replace ha := Aside0.mk ha
            have F0 := Aside0.mk (Q_F0 (hoff 21 (by kernel_rfl)))
            refine value_ (w1 := w') (v := .pointer (some ⟨q, 0, none⟩)) (by rfl) rfl ?_ ?_
            · go_simp
              (try simp only [i64_w])
              try rfl
            refine hK.out _ _ ⟨v2, m23_, (by rw [ha.out]; exact putSel_upk 6 hb_ rfl rfl rfl), Q_F0, fun h0_ _ => absurd ((hoff 21 (by kernel_rfl)).symm.trans h0_) (by decide), fun h0_ => absurd ((hoff 22 (by kernel_rfl)).symm.trans h0_) (by decide), fun h0_ => absurd ((hoff 22 (by kernel_rfl)).symm.trans h0_) (by decide), fun h0_ => absurd ((hoff 22 (by kernel_rfl)).symm.trans h0_) (by decide), fun h0_ => absurd ((hoff 23 (by kernel_rfl)).symm.trans h0_) (by decide)⟩
          refine steps_cons ?_ ?_
          · rintro b a w' ⟨v2, m23_, ha, Q_F0, Q_F1, Q_FO, Q_FF, Q_FQ, Q_X23_⟩ hb_ hon hoff
            refine ⟨_, rfl, fun K hK => ?_⟩
            have e30 : a.tmps[30]? = some (.pointer (some ⟨q, 0, none⟩)) := by rw [ha]; exact putSel_on (e := (6, 30, .pointer (some ⟨q, 0, none⟩))) 6 rfl rfl (hon 6 (by kernel_rfl)) rfl
            replace ha := Aside0.mk ha
            have F0 := Aside0.mk (Q_F0 (hoff 21 (by kernel_rfl)))
            refine value_ (w1 := w') (v := .pointer (some ⟨q, 66, none⟩)) (by rfl) rfl ?_ ?_
            · go_simp
              (try simp only [i64_w])
              try rfl
            refine hK.out _ _ ⟨v2, m23_, (by rw [ha.out]; exact putSel_upk 7 hb_ rfl rfl rfl), Q_F0, fun h0_ _ => absurd ((hoff 21 (by kernel_rfl)).symm.trans h0_) (by decide), fun h0_ => absurd ((hoff 22 (by kernel_rfl)).symm.trans h0_) (by decide), fun h0_ => absurd ((hoff 22 (by kernel_rfl)).symm.trans h0_) (by decide), fun h0_ => absurd ((hoff 22 (by kernel_rfl)).symm.trans h0_) (by decide), fun h0_ => absurd ((hoff 23 (by kernel_rfl)).symm.trans h0_) (by decide)⟩
          refine steps_cons ?_ ?_
          · rintro b a w' ⟨v2, m23_, ha, Q_F0, Q_F1, Q_FO, Q_FF, Q_FQ, Q_X23_⟩ hb_ hon hoff
            refine ⟨_, rfl, fun K hK => ?_⟩
            have e31 : a.tmps[31]? = some (.pointer (some ⟨q, 66, none⟩)) := by rw [ha]; exact putSel_on (e := (7, 31, .pointer (some ⟨q, 66, none⟩))) 7 rfl rfl (hon 7 (by kernel_rfl)) rfl
            have e29 : a.tmps[29]? = some (.int .i64 (k : Int)) := by rw [ha]; exact putSel_on (e := (5, 29, .int .i64 (k : Int))) 5 rfl rfl (hon 5 (by kernel_rfl)) rfl
            replace ha := Aside0.mk ha
            have F0 := Aside0.mk (Q_F0 (hoff 21 (by kernel_rfl)))
            refine value_ (w1 := w') (v := .pointer (some ⟨q, 66 + k, none⟩)) (by rfl) rfl ?_ ?_
            · go_simp
              (try simp only [i64_w])
              try rfl
            refine hK.out _ _ ⟨v2, m23_, (by rw [ha.out]; exact putSel_upk 8 hb_ rfl rfl rfl), Q_F0, fun h0_ _ => absurd ((hoff 21 (by kernel_rfl)).symm.trans h0_) (by decide), fun h0_ => absurd ((hoff 22 (by kernel_rfl)).symm.trans h0_) (by decide), fun h0_ => absurd ((hoff 22 (by kernel_rfl)).symm.trans h0_) (by decide), fun h0_ => absurd ((hoff 22 (by kernel_rfl)).symm.trans h0_) (by decide), fun h0_ => absurd ((hoff 23 (by kernel_rfl)).symm.trans h0_) (by decide)⟩
          refine steps_cons ?_ ?_
          · rintro b a w' ⟨v2, m23_, ha, Q_F0, Q_F1, Q_FO, Q_FF, Q_FQ, Q_X23_⟩ hb_ hon hoff
            refine ⟨_, rfl, fun K hK => ?_⟩
            have e32 : a.tmps[32]? = some (.pointer (some ⟨q, 66 + k, none⟩)) := by rw [ha]; exact putSel_on (e := (8, 32, .pointer (some ⟨q, 66 + k, none⟩))) 8 rfl rfl (hon 8 (by kernel_rfl)) rfl
            replace ha := Aside0.mk ha
            have F0 := Aside0.mk (Q_F0 (hoff 21 (by kernel_rfl)))
            have hc_ : w'.cell? ⟨q, 66 + k, none⟩ = some (.int .i64 p) := by rw [F0.out]; exact hcP
            refine value_ (w1 := w') (v := .int .i64 p) (by rfl) rfl ?_ ?_
            · go_simp
              (try simp only [i64_w])
              try rfl
            refine hK.out _ _ ⟨v2, m23_, (by rw [ha.out]; exact putSel_upk 9 hb_ rfl rfl rfl), Q_F0, fun h0_ _ => absurd ((hoff 21 (by kernel_rfl)).symm.trans h0_) (by decide), fun h0_ => absurd ((hoff 22 (by kernel_rfl)).symm.trans h0_) (by decide), fun h0_ => absurd ((hoff 22 (by kernel_rfl)).symm.trans h0_) (by decide), fun h0_ => absurd ((hoff 22 (by kernel_rfl)).symm.trans h0_) (by decide), fun h0_ => absurd ((hoff 23 (by kernel_rfl)).symm.trans h0_) (by decide)⟩
          refine steps_cons ?_ ?_
          · rintro b a w' ⟨v2, m23_, ha, Q_F0, Q_F1, Q_FO, Q_FF, Q_FQ, Q_X23_⟩ hb_ hon hoff
            refine ⟨_, rfl, fun K hK => ?_⟩
            have e0 : a.tmps[0]? = some (.pointer (some ⟨q, 0, none⟩)) := by rw [ha]; exact (putSel_off rfl).trans rfl
            replace ha := Aside0.mk ha
            have F0 := Aside0.mk (Q_F0 (hoff 21 (by kernel_rfl)))
            refine value_ (w1 := w') (v := .pointer (some ⟨q, 0, none⟩)) (by rfl) rfl ?_ ?_
            · go_simp
              (try simp only [i64_w])
              try rfl
            refine hK.out _ _ ⟨v2, m23_, (by rw [ha.out]; exact putSel_upk 10 hb_ rfl rfl rfl), Q_F0, fun h0_ _ => absurd ((hoff 21 (by kernel_rfl)).symm.trans h0_) (by decide), fun h0_ => absurd ((hoff 22 (by kernel_rfl)).symm.trans h0_) (by decide), fun h0_ => absurd ((hoff 22 (by kernel_rfl)).symm.trans h0_) (by decide), fun h0_ => absurd ((hoff 22 (by kernel_rfl)).symm.trans h0_) (by decide), fun h0_ => absurd ((hoff 23 (by kernel_rfl)).symm.trans h0_) (by decide)⟩
          refine steps_cons ?_ ?_
          · rintro b a w' ⟨v2, m23_, ha, Q_F0, Q_F1, Q_FO, Q_FF, Q_FQ, Q_X23_⟩ hb_ hon hoff
            refine ⟨_, rfl, fun K hK => ?_⟩
            have e0 : a.tmps[0]? = some (.pointer (some ⟨q, 0, none⟩)) := by rw [ha]; exact (putSel_off rfl).trans rfl
            replace ha := Aside0.mk ha
            have F0 := Aside0.mk (Q_F0 (hoff 21 (by kernel_rfl)))
            refine value_ (w1 := w') (v := .pointer (some ⟨q, 0, none⟩)) (by rfl) rfl ?_ ?_
            · go_simp
              (try simp only [i64_w])
              try rfl
            refine hK.out _ _ ⟨v2, m23_, (by rw [ha.out]; exact putSel_upk 11 hb_ rfl rfl rfl), Q_F0, fun h0_ _ => absurd ((hoff 21 (by kernel_rfl)).symm.trans h0_) (by decide), fun h0_ => absurd ((hoff 22 (by kernel_rfl)).symm.trans h0_) (by decide), fun h0_ => absurd ((hoff 22 (by kernel_rfl)).symm.trans h0_) (by decide), fun h0_ => absurd ((hoff 22 (by kernel_rfl)).symm.trans h0_) (by decide), fun h0_ => absurd ((hoff 23 (by kernel_rfl)).symm.trans h0_) (by decide)⟩
          refine steps_cons ?_ ?_
          · rintro b a w' ⟨v2, m23_, ha, Q_F0, Q_F1, Q_FO, Q_FF, Q_FQ, Q_X23_⟩ hb_ hon hoff
            refine ⟨_, rfl, fun K hK => ?_⟩
            have e35 : a.tmps[35]? = some (.pointer (some ⟨q, 0, none⟩)) := by rw [ha]; exact putSel_on (e := (11, 35, .pointer (some ⟨q, 0, none⟩))) 11 rfl rfl (hon 11 (by kernel_rfl)) rfl
            replace ha := Aside0.mk ha
            have F0 := Aside0.mk (Q_F0 (hoff 21 (by kernel_rfl)))
            refine value_ (w1 := w') (v := .pointer (some ⟨q, 0, none⟩)) (by rfl) rfl ?_ ?_
            · go_simp
              (try simp only [i64_w])
              try rfl
            refine hK.out _ _ ⟨v2, m23_, (by rw [ha.out]; exact putSel_upk 12 hb_ rfl rfl rfl), Q_F0, fun h0_ _ => absurd ((hoff 21 (by kernel_rfl)).symm.trans h0_) (by decide), fun h0_ => absurd ((hoff 22 (by kernel_rfl)).symm.trans h0_) (by decide), fun h0_ => absurd ((hoff 22 (by kernel_rfl)).symm.trans h0_) (by decide), fun h0_ => absurd ((hoff 22 (by kernel_rfl)).symm.trans h0_) (by decide), fun h0_ => absurd ((hoff 23 (by kernel_rfl)).symm.trans h0_) (by decide)⟩
          refine steps_cons ?_ ?_
          · rintro b a w' ⟨v2, m23_, ha, Q_F0, Q_F1, Q_FO, Q_FF, Q_FQ, Q_X23_⟩ hb_ hon hoff
            refine ⟨_, rfl, fun K hK => ?_⟩
            have e36 : a.tmps[36]? = some (.pointer (some ⟨q, 0, none⟩)) := by rw [ha]; exact putSel_on (e := (12, 36, .pointer (some ⟨q, 0, none⟩))) 12 rfl rfl (hon 12 (by kernel_rfl)) rfl
            replace ha := Aside0.mk ha
            have F0 := Aside0.mk (Q_F0 (hoff 21 (by kernel_rfl)))
            refine value_ (w1 := w') (v := .pointer (some ⟨q, 130, none⟩)) (by rfl) rfl ?_ ?_
            · go_simp
              (try simp only [i64_w])
              try rfl
            refine hK.out _ _ ⟨v2, m23_, (by rw [ha.out]; exact putSel_upk 13 hb_ rfl rfl rfl), Q_F0, fun h0_ _ => absurd ((hoff 21 (by kernel_rfl)).symm.trans h0_) (by decide), fun h0_ => absurd ((hoff 22 (by kernel_rfl)).symm.trans h0_) (by decide), fun h0_ => absurd ((hoff 22 (by kernel_rfl)).symm.trans h0_) (by decide), fun h0_ => absurd ((hoff 22 (by kernel_rfl)).symm.trans h0_) (by decide), fun h0_ => absurd ((hoff 23 (by kernel_rfl)).symm.trans h0_) (by decide)⟩
          refine steps_cons ?_ ?_
          · rintro b a w' ⟨v2, m23_, ha, Q_F0, Q_F1, Q_FO, Q_FF, Q_FQ, Q_X23_⟩ hb_ hon hoff
            refine ⟨_, rfl, fun K hK => ?_⟩
            have e37 : a.tmps[37]? = some (.pointer (some ⟨q, 130, none⟩)) := by rw [ha]; exact putSel_on (e := (13, 37, .pointer (some ⟨q, 130, none⟩))) 13 rfl rfl (hon 13 (by kernel_rfl)) rfl
            replace ha := Aside0.mk ha
            have F0 := Aside0.mk (Q_F0 (hoff 21 (by kernel_rfl)))
            have hc_ : w'.cell? ⟨q, 130, none⟩ = some (.int .i64 (k : Int)) := by rw [F0.out]; exact hcF
            refine value_ (w1 := w') (v := .int .i64 (k : Int)) (by rfl) rfl ?_ ?_
            · go_simp
              (try simp only [i64_w])
              try rfl
            refine hK.out _ _ ⟨v2, m23_, (by rw [ha.out]; exact putSel_upk 14 hb_ rfl rfl rfl), Q_F0, fun h0_ _ => absurd ((hoff 21 (by kernel_rfl)).symm.trans h0_) (by decide), fun h0_ => absurd ((hoff 22 (by kernel_rfl)).symm.trans h0_) (by decide), fun h0_ => absurd ((hoff 22 (by kernel_rfl)).symm.trans h0_) (by decide), fun h0_ => absurd ((hoff 22 (by kernel_rfl)).symm.trans h0_) (by decide), fun h0_ => absurd ((hoff 23 (by kernel_rfl)).symm.trans h0_) (by decide)⟩
          refine steps_cons ?_ ?_
          · rintro b a w' ⟨v2, m23_, ha, Q_F0, Q_F1, Q_FO, Q_FF, Q_FQ, Q_X23_⟩ hb_ hon hoff
            refine ⟨_, rfl, fun K hK => ?_⟩
            have e34 : a.tmps[34]? = some (.pointer (some ⟨q, 0, none⟩)) := by rw [ha]; exact putSel_on (e := (10, 34, .pointer (some ⟨q, 0, none⟩))) 10 rfl rfl (hon 10 (by kernel_rfl)) rfl
            replace ha := Aside0.mk ha
            have F0 := Aside0.mk (Q_F0 (hoff 21 (by kernel_rfl)))
            refine value_ (w1 := w') (v := .pointer (some ⟨q, 0, none⟩)) (by rfl) rfl ?_ ?_
            · go_simp
              (try simp only [i64_w])
              try rfl
            refine hK.out _ _ ⟨v2, m23_, (by rw [ha.out]; exact putSel_upk 15 hb_ rfl rfl rfl), Q_F0, fun h0_ _ => absurd ((hoff 21 (by kernel_rfl)).symm.trans h0_) (by decide), fun h0_ => absurd ((hoff 22 (by kernel_rfl)).symm.trans h0_) (by decide), fun h0_ => absurd ((hoff 22 (by kernel_rfl)).symm.trans h0_) (by decide), fun h0_ => absurd ((hoff 22 (by kernel_rfl)).symm.trans h0_) (by decide), fun h0_ => absurd ((hoff 23 (by kernel_rfl)).symm.trans h0_) (by decide)⟩
          refine steps_cons ?_ ?_
          · rintro b a w' ⟨v2, m23_, ha, Q_F0, Q_F1, Q_FO, Q_FF, Q_FQ, Q_X23_⟩ hb_ hon hoff
            refine ⟨_, rfl, fun K hK => ?_⟩
            have e39 : a.tmps[39]? = some (.pointer (some ⟨q, 0, none⟩)) := by rw [ha]; exact putSel_on (e := (15, 39, .pointer (some ⟨q, 0, none⟩))) 15 rfl rfl (hon 15 (by kernel_rfl)) rfl
            replace ha := Aside0.mk ha
            have F0 := Aside0.mk (Q_F0 (hoff 21 (by kernel_rfl)))
            refine value_ (w1 := w') (v := .pointer (some ⟨q, 2, none⟩)) (by rfl) rfl ?_ ?_
            · go_simp
              (try simp only [i64_w])
              try rfl
            refine hK.out _ _ ⟨v2, m23_, (by rw [ha.out]; exact putSel_upk 16 hb_ rfl rfl rfl), Q_F0, fun h0_ _ => absurd ((hoff 21 (by kernel_rfl)).symm.trans h0_) (by decide), fun h0_ => absurd ((hoff 22 (by kernel_rfl)).symm.trans h0_) (by decide), fun h0_ => absurd ((hoff 22 (by kernel_rfl)).symm.trans h0_) (by decide), fun h0_ => absurd ((hoff 22 (by kernel_rfl)).symm.trans h0_) (by decide), fun h0_ => absurd ((hoff 23 (by kernel_rfl)).symm.trans h0_) (by decide)⟩
          refine steps_cons ?_ ?_
          · rintro b a w' ⟨v2, m23_, ha, Q_F0, Q_F1, Q_FO, Q_FF, Q_FQ, Q_X23_⟩ hb_ hon hoff
            refine ⟨_, rfl, fun K hK => ?_⟩
            have e40 : a.tmps[40]? = some (.pointer (some ⟨q, 2, none⟩)) := by rw [ha]; exact putSel_on (e := (16, 40, .pointer (some ⟨q, 2, none⟩))) 16 rfl rfl (hon 16 (by kernel_rfl)) rfl
            have e38 : a.tmps[38]? = some (.int .i64 (k : Int)) := by rw [ha]; exact putSel_on (e := (14, 38, .int .i64 (k : Int))) 14 rfl rfl (hon 14 (by kernel_rfl)) rfl
            replace ha := Aside0.mk ha
            have F0 := Aside0.mk (Q_F0 (hoff 21 (by kernel_rfl)))
            refine value_ (w1 := w') (v := .pointer (some ⟨q, 2 + k, none⟩)) (by rfl) rfl ?_ ?_
            · go_simp
              (try simp only [i64_w])
              try rfl
            refine hK.out _ _ ⟨v2, m23_, (by rw [ha.out]; exact putSel_upk 17 hb_ rfl rfl rfl), Q_F0, fun h0_ _ => absurd ((hoff 21 (by kernel_rfl)).symm.trans h0_) (by decide), fun h0_ => absurd ((hoff 22 (by kernel_rfl)).symm.trans h0_) (by decide), fun h0_ => absurd ((hoff 22 (by kernel_rfl)).symm.trans h0_) (by decide), fun h0_ => absurd ((hoff 22 (by kernel_rfl)).symm.trans h0_) (by decide), fun h0_ => absurd ((hoff 23 (by kernel_rfl)).symm.trans h0_) (by decide)⟩
          refine steps_cons ?_ ?_
          · rintro b a w' ⟨v2, m23_, ha, Q_F0, Q_F1, Q_FO, Q_FF, Q_FQ, Q_X23_⟩ hb_ hon hoff
            refine ⟨_, rfl, fun K hK => ?_⟩
            have e41 : a.tmps[41]? = some (.pointer (some ⟨q, 2 + k, none⟩)) := by rw [ha]; exact putSel_on (e := (17, 41, .pointer (some ⟨q, 2 + k, none⟩))) 17 rfl rfl (hon 17 (by kernel_rfl)) rfl
            replace ha := Aside0.mk ha
            have F0 := Aside0.mk (Q_F0 (hoff 21 (by kernel_rfl)))
            have hc_ : w'.cell? ⟨q, 2 + k, none⟩ = some (.slice A m c) := by rw [F0.out]; exact hcR
            refine value_ (w1 := w') (v := .slice A m c) (by rfl) rfl ?_ ?_
            · go_simp
              (try simp only [i64_w])
              try rfl
            refine hK.out _ _ ⟨v2, m23_, (by rw [ha.out]; exact putSel_upk 18 hb_ rfl rfl rfl), Q_F0, fun h0_ _ => absurd ((hoff 21 (by kernel_rfl)).symm.trans h0_) (by decide), fun h0_ => absurd ((hoff 22 (by kernel_rfl)).symm.trans h0_) (by decide), fun h0_ => absurd ((hoff 22 (by kernel_rfl)).symm.trans h0_) (by decide), fun h0_ => absurd ((hoff 22 (by kernel_rfl)).symm.trans h0_) (by decide), fun h0_ => absurd ((hoff 23 (by kernel_rfl)).symm.trans h0_) (by decide)⟩
          refine steps_cons ?_ ?_
          · rintro b a w' ⟨v2, m23_, ha, Q_F0, Q_F1, Q_FO, Q_FF, Q_FQ, Q_X23_⟩ hb_ hon hoff
            refine ⟨_, rfl, fun K hK => ?_⟩
            have e42 : a.tmps[42]? = some (.slice A m c) := by rw [ha]; exact putSel_on (e := (18, 42, .slice A m c)) 18 rfl rfl (hon 18 (by kernel_rfl)) rfl
            replace ha := Aside0.mk ha
            have F0 := Aside0.mk (Q_F0 (hoff 21 (by kernel_rfl)))
            refine goes_ Tryz.func19 (by kernel_rfl) rfl #[.slice A m c] (by rfl) rfl rfl (by first | (simp only [List.map_toArray, List.map_cons, List.map_nil, Act.eval, Array.getD_eq_getD_getElem?, Option.getD_some, e42]; done) | (simp only [List.map_toArray, List.map_cons, List.map_nil, Act.eval, Array.getD_eq_getD_getElem?, Option.getD_some, e42]; rfl)) ?_
            refine Calls.mono (HCL.out w') ?_
            rintro e wX ⟨rfl, hX_⟩
            subst hX_
            refine ⟨_, rfl, ?_⟩
            refine hK.out _ _ ⟨v2, m23_, (by rw [ha.out]; exact putSel_upk 19 hb_ rfl rfl rfl), fun _ => F0.out, fun h0_ _ => absurd ((hoff 21 (by kernel_rfl)).symm.trans h0_) (by decide), fun h0_ => absurd ((hoff 22 (by kernel_rfl)).symm.trans h0_) (by decide), fun h0_ => absurd ((hoff 22 (by kernel_rfl)).symm.trans h0_) (by decide), fun h0_ => absurd ((hoff 22 (by kernel_rfl)).symm.trans h0_) (by decide), fun h0_ => absurd ((hoff 23 (by kernel_rfl)).symm.trans h0_) (by decide)⟩
          refine steps_cons ?_ ?_
          · rintro b a w' ⟨v2, m23_, ha, Q_F0, Q_F1, Q_FO, Q_FF, Q_FQ, Q_X23_⟩ hb_ hon hoff
            refine ⟨_, rfl, fun K hK => ?_⟩
            have e33 : a.tmps[33]? = some (.int .i64 p) := by rw [ha]; exact putSel_on (e := (9, 33, .int .i64 p)) 9 rfl rfl (hon 9 (by kernel_rfl)) rfl
            have e43 : a.tmps[43]? = some (.slice A m m) := by rw [ha]; exact putSel_on (e := (19, 43, .slice A m m)) 19 rfl rfl (hon 19 (by kernel_rfl)) rfl
            replace ha := Aside0.mk ha
            have F0 := Aside0.mk (Q_F0 (hoff 21 (by kernel_rfl)))
            refine value_ (w1 := w') (v := .agg #[.int .i64 p, .slice A m m]) (by rfl) rfl ?_ ?_
            · go_simp
              (try simp only [i64_w])
              try rfl
            refine hK.out _ _ ⟨v2, m23_, (by rw [ha.out]; exact putSel_upk 20 hb_ rfl rfl rfl), Q_F0, fun h0_ _ => absurd ((hoff 21 (by kernel_rfl)).symm.trans h0_) (by decide), fun h0_ => absurd ((hoff 22 (by kernel_rfl)).symm.trans h0_) (by decide), fun h0_ => absurd ((hoff 22 (by kernel_rfl)).symm.trans h0_) (by decide), fun h0_ => absurd ((hoff 22 (by kernel_rfl)).symm.trans h0_) (by decide), fun h0_ => absurd ((hoff 23 (by kernel_rfl)).symm.trans h0_) (by decide)⟩
          refine steps_cons ?_ ?_
          · rintro b a w' ⟨v2, m23_, ha, Q_F0, Q_F1, Q_FO, Q_FF, Q_FQ, Q_X23_⟩ hb_ hon hoff
            refine ⟨_, rfl, fun K hK => ?_⟩
            have e44 : a.tmps[44]? = some (.agg #[.int .i64 p, .slice A m m]) := by rw [ha]; exact putSel_on (e := (20, 44, .agg #[.int .i64 p, .slice A m m])) 20 rfl rfl (hon 20 (by kernel_rfl)) rfl
            replace ha := Aside0.mk ha
            have F0 := Aside0.mk (Q_F0 hb_)
            have hw_ := F0.out
            subst hw_
            refine value_ (w1 := wr.drew.alloc (.cells #[.int .i64 p, .slice A m m] 37)) (v := .slice (some ⟨wr.heap.size, 0, none⟩) 1 1) (by rfl) rfl ?_ ?_
            · go_simp
              try rfl
            refine hK.out _ _ ⟨v2, m23_, (by rw [ha.out]; exact putSel_upk 21 hb_ rfl rfl rfl), fun h0_ => absurd ((up_self b 21).symm.trans h0_) (by decide), fun _ _ => rfl, fun h0_ => absurd ((hoff 22 (by kernel_rfl)).symm.trans h0_) (by decide), fun h0_ => absurd ((hoff 22 (by kernel_rfl)).symm.trans h0_) (by decide), fun h0_ => absurd ((hoff 22 (by kernel_rfl)).symm.trans h0_) (by decide), fun h0_ => absurd ((hoff 23 (by kernel_rfl)).symm.trans h0_) (by decide)⟩
          refine steps_cons ?_ ?_
          · rintro b a w' ⟨v2, m23_, ha, Q_F0, Q_F1, Q_FO, Q_FF, Q_FQ, Q_X23_⟩ hb_ hon hoff
            refine ⟨_, rfl, fun K hK => ?_⟩
            have e24 : a.tmps[24]? = some (v) := by rw [ha]; exact putSel_on (e := (0, 24, v)) 0 rfl rfl (hon 0 (by kernel_rfl)) rfl
            have e45 : a.tmps[45]? = some (.slice (some ⟨wr.heap.size, 0, none⟩) 1 1) := by rw [ha]; exact putSel_on (e := (21, 45, .slice (some ⟨wr.heap.size, 0, none⟩) 1 1)) 21 rfl rfl (hon 21 (by kernel_rfl)) rfl
            replace ha := Aside0.mk ha
            have F1 := Aside0.mk (Q_F1 (hon 21 (by kernel_rfl)) hb_)
            have hw_ := F1.out
            subst hw_
            obtain ⟨v1, wX, hr_, hown_, hg_, _⟩ := HAP.out
            refine value_ (w1 := wX) (v := v1) (by rfl) rfl (exec_append (t := 31) (s := .tmp 24) (y := .tmp 45) rfl (by first | (simp only [List.map_toArray, List.map_cons, List.map_nil, Act.eval, Array.getD_eq_getD_getElem?, Option.getD_some, e24, e45]; done) | (simp only [List.map_toArray, List.map_cons, List.map_nil, Act.eval, Array.getD_eq_getD_getElem?, Option.getD_some, e24, e45]; rfl)) (by first | (simp only [List.map_toArray, List.map_cons, List.map_nil, Act.eval, Array.getD_eq_getD_getElem?, Option.getD_some, e24, e45]; done) | (simp only [List.map_toArray, List.map_cons, List.map_nil, Act.eval, Array.getD_eq_getD_getElem?, Option.getD_some, e24, e45]; rfl)) hr_) ?_
            have hff := HFW.out.grown hg_ (fun i hi => .inr (HOB.out i hi))
            have hqq := HQA.out.grown hg_ (fun hi => absurd (HOB.out q hi) (Nat.not_le.2 HQL.out))
            refine hK.out _ _ ⟨v1, m23_, (by rw [ha.out]; exact putSel_upk 22 hb_ rfl rfl rfl), fun h0_ => absurd ((hon 21 (by kernel_rfl)).symm.trans h0_) (by decide), fun _ h1_ => absurd ((up_self b 22).symm.trans h1_) (by decide), fun _ => hown_, fun _ => hff, fun _ => hqq, fun h0_ => absurd ((hoff 23 (by kernel_rfl)).symm.trans h0_) (by decide)⟩
          refine steps_cons ?_ ?_
          · rintro b a w' ⟨v2, m23_, ha, Q_F0, Q_F1, Q_FO, Q_FF, Q_FQ, Q_X23_⟩ hb_ hon hoff
            refine ⟨_, rfl, fun K hK => ?_⟩
            have e46 : a.tmps[46]? = some (v2) := by rw [ha]; exact putSel_on (e := (22, 46, v2)) 22 rfl rfl (hon 22 (by kernel_rfl)) rfl
            replace ha := Aside0.mk ha
            have FO := Aside0.mk (Q_FO (hon 22 (by kernel_rfl)))
            have FF := Aside0.mk (Q_FF (hon 22 (by kernel_rfl)))
            have FQ := Aside0.mk (Q_FQ (hon 22 (by kernel_rfl)))
            refine value_ (w1 := w') (v := v2) (by rfl) rfl ?_ ?_
            · go_simp
              (try simp only [i64_w])
              try rfl
            refine hK.out _ _ ⟨v2, (v2), (by rw [ha.out]; exact putSel_upk 23 hb_ rfl rfl rfl), fun h0_ => absurd ((hon 21 (by kernel_rfl)).symm.trans h0_) (by decide), fun _ h1_ => absurd ((hon 22 (by kernel_rfl)).symm.trans h1_) (by decide), Q_FO, Q_FF, Q_FQ, fun _ => rfl⟩
          exact steps_nil
        · rintro b a w' hall ⟨v2, m23_, ha, Q_F0, Q_F1, Q_FO, Q_FF, Q_FQ, Q_X23_⟩
          clear F0
          have hb0_ := hall 0 (by kernel_rfl)
          have hb1_ := hall 1 (by kernel_rfl)
          have hb2_ := hall 2 (by kernel_rfl)
          have hb3_ := hall 3 (by kernel_rfl)
          have hb4_ := hall 4 (by kernel_rfl)
          have hb5_ := hall 5 (by kernel_rfl)
          have hb6_ := hall 6 (by kernel_rfl)
          have hb7_ := hall 7 (by kernel_rfl)
          have hb8_ := hall 8 (by kernel_rfl)
          have hb9_ := hall 9 (by kernel_rfl)
          have hb10_ := hall 10 (by kernel_rfl)
          have hb11_ := hall 11 (by kernel_rfl)
          have hb12_ := hall 12 (by kernel_rfl)
          have hb13_ := hall 13 (by kernel_rfl)
          have hb14_ := hall 14 (by kernel_rfl)
          have hb15_ := hall 15 (by kernel_rfl)
          have hb16_ := hall 16 (by kernel_rfl)
          have hb17_ := hall 17 (by kernel_rfl)
          have hb18_ := hall 18 (by kernel_rfl)
          have hb19_ := hall 19 (by kernel_rfl)
          have hb20_ := hall 20 (by kernel_rfl)
          have hb21_ := hall 21 (by kernel_rfl)
          have hb22_ := hall 22 (by kernel_rfl)
          have hb23_ := hall 23 (by kernel_rfl)
          subst ha
          obtain rfl := Q_X23_ hb23_
          simp only [putSel, hb0_, hb1_, hb2_, hb3_, hb4_, hb5_, hb6_, hb7_, hb8_, hb9_, hb10_, hb11_, hb12_, hb13_, hb14_, hb15_, hb16_, hb17_, hb18_, hb19_, hb20_, hb21_, hb22_, hb23_, if_true, Act.put, List.setIfInBounds_toArray, List.set_cons_zero, List.set_cons_succ]
          clear Q_F0
          clear Q_F1
          have FO := Aside0.mk (Q_FO hb22_)
          clear Q_FO
          have FF := Aside0.mk (Q_FF hb22_)
          clear Q_FF
          have FQ := Aside0.mk (Q_FQ hb22_)
          clear Q_FQ
          clear hall hb0_ hb1_ hb2_ hb3_ hb4_ hb5_ hb6_ hb7_ hb8_ hb9_ hb10_ hb11_ hb12_ hb13_ hb14_ hb15_ hb16_ hb17_ hb18_ hb19_ hb20_ hb21_ hb22_ hb23_
          have b1 := FQ.out.cFr
          have b2 := FQ.out.drew.cFr
          have b3 := FQ.out.cRing k hk64
          have b4 := FQ.out.drew.cRing k hk64
          have b5 := FQ.out.frozen (2 + k)
          have b6 := FQ.out.drew.frozen (2 + k)
          clear HCL HAP HT_ HW_ hHeld hcF hcP hcR HQA
          go_wp2_with fail
          go_region
          have HB2 := aside' (FQ.out.setRing k hk64 (.slice none 0 0))
          have HF2 := aside' (FF.out.setCell (p := ⟨q, 2 + k, none⟩) (.inl rfl) (.slice none 0 0))
          have HO2 := aside' (((Foot.refl (fun i => i = q) w').setCell (p := ⟨q, 2 + k, none⟩) (.inl rfl) (.slice none 0 0)).own FO.out (fun i hi hiq => absurd (own_blk FO.out i hi) (by rw [hiq]; exact Nat.not_le.2 HQL.out)))
          clear b1 b2 b3 b4 b5 b6 FQ FF FO
          generalize w'.setCell ⟨q, 2 + k, none⟩ (.slice none 0 0) = W2 at *
          have b1 := HB2.out.drew.cFr
          have b2 := HB2.out.drew.drew.cFr
          have b3 := HB2.out.drew.cN
          have b4 := HB2.out.drew.drew.cN
          have b5 := HB2.out.drew.frozen 130
          have b6 := HB2.out.drew.drew.frozen 130
          have b7 := HB2.out.drew.frozen 131
          have b8 := HB2.out.drew.drew.frozen 131
          have b9 := HB2.out.cFr
          have b10 := HB2.out.cN
          have b11 := HB2.out.frozen 130
          have b12 := HB2.out.frozen 131
          rw [hni] at b3 b4 b10
          have hn64 : (n' : Int) ≤ 64 := by have := HHK.out.2.1; omega
          obtain ⟨k2, hk2⟩ : ∃ k2 : Nat, k2 = (k + 1) % 64 := ⟨_, rfl⟩
          have e1 : ((k : Int) + 1) % 64 = (k2 : Int) := by omega
          have e2 : ni - 1 = (n' : Int) := by omega
          have HK2 := aside' hk2
          clear hk2
          have hni64 : ni ≤ 65 := by have := HHK.out.2.1; omega
          have hni1 : 1 ≤ ni := by omega
          have hri1 : ri - 1 = (r : Int) := by omega
          have hri2 : ri ≤ 9223372036854775807 := by have := HHK.out.2.2.2; omega
          have hri3 : 1 ≤ ri := by omega
          have HNI := aside' hni
          have HRI := aside' hri
          clear hni hri
          go_wp2_with fail
          go_region
          go_wp2_with fail
          go_roundw
          case rel =>
            refine ⟨t + 1, _, by omega, ?_, rfl, SendAt.next H.out HS.out htl hk64 HHK.out.1 HHK.out.2.1 HHK.out.2.2.1 HRG.out HK2.out HB2.out HF2.out HO2.out HCLA.out⟩
            rw [show n - (t + 1) = r by have := HHK.out.2.2.2; omega]
          case measure =>
            have h1 := HRI.out
            have h2 := HHK.out.2.2.2
            simp only [intOf]
            omega
      · have htL2 : t = L.length := by omega
        have hcN := hB.cN
        rw [show L.length - t = 0 by omega] at hcN
        obtain ⟨O, hO1, hO2, hO3⟩ := HS.out.out
        obtain ⟨A, L', c, hv, hL'⟩ := own_form hO2
        subst hv
        obtain rfl : L' = t := hL'.out
        have hfacts := own_clip hO2
        have HF := aside' (SendAt.fin H.out HS.out (.inr htL2) htn)
        clear hB hrg hO1 hO2 hO3 htL2
        generalize hri : ((r + 1 : Nat) : Int) = ri at *
        go_wp2_with fail
        refine Calls.mono (Clip_copies A _ c _ hfacts.1 hfacts.2.1 hfacts.2.2) ?_
        rintro e w2 ⟨rfl, hw2⟩
        have hw2 := hw2.symm
        subst hw2
        go_wp2
        go_ret2
        obtain ⟨f1, f2, f3, f4⟩ := HF.out
        exact ⟨A, by rw [f1]; rfl, f2, f3, f4⟩
    · have htn2 : t = n := by omega
      rw [show n - t = 0 by omega]
      obtain ⟨O, hO1, hO2, hO3⟩ := HS.out.out
      obtain ⟨A, L', c, hv, hL'⟩ := own_form hO2
      subst hv
      obtain rfl : L' = t := hL'.out
      have hfacts := own_clip hO2
      have HF := aside' (SendAt.fin H.out HS.out (.inl htn2) htn)
      clear hB hrg hO1 hO2 hO3 htn2
      go_wp2_with fail
      refine Calls.mono (Clip_copies A _ c _ hfacts.1 hfacts.2.1 hfacts.2.2) ?_
      rintro e w2 ⟨rfl, hw2⟩
      have hw2 := hw2.symm
      subst hw2
      go_wp2
      go_ret2
      obtain ⟨f1, f2, f3, f4⟩ := HF.out
      exact ⟨A, by rw [f1]; rfl, f2, f3, f4⟩
end Go.Proofs.YtdgilloblfbklabGreatDoor.Own
