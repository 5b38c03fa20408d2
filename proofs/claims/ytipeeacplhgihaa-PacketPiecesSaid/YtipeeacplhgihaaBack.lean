/-
  The walk of the law PacketBack.
-/
import Derived.Test.YtipeeacplhgihaaAlive
set_option linter.unusedVariables false
set_option linter.unusedSimpArgs false
namespace Go.Proofs.Ytipeeacplhgihaa
open Go.RowKit PkMath

theorem first_bad (xs : List Num) (h : ¬ allOk xs) : ∃ i, i < xs.length ∧ ¬ (xs.getD i zeroNum).ok ∧ ∀ j, j < i → (xs.getD j zeroNum).ok := by
  have key : ∀ k, k ≤ xs.length → (∀ j, j < k → (xs.getD j zeroNum).ok) ∨ ∃ i, i < xs.length ∧ ¬ (xs.getD i zeroNum).ok ∧ ∀ j, j < i → (xs.getD j zeroNum).ok := by
    intro k
    induction k with
    | zero => intro _; exact .inl (fun j hj => by omega)
    | succ k ih =>
      intro hk
      rcases ih (by omega) with h1 | h1
      · by_cases hb : (xs.getD k zeroNum).ok
        · refine .inl (fun j hj => ?_)
          by_cases hjk : j = k
          · subst hjk; exact hb
          · exact h1 j (by omega)
        · exact .inr ⟨k, by omega, hb, h1⟩
      · exact .inr h1
  rcases key xs.length (Nat.le_refl _) with h1 | h1
  · exact absurd h1 h
  · exact h1

/-- What PacketBack holds in its loop. -/
structure BK (w : World) (g a : Nat) (zs : List Int) (W : World) : Prop where
  cur : CurAt w.heap.size W g zs a
  below : Below w.heap.size w W
theorem BK.next {w : World} {g a : Nat} {zs : List Int} {W W' : World} (h : BK w g a zs W) (hb : Below W.heap.size W W') : BK w g a zs W' := ⟨h.cur.below hb, h.below.trans (hb.mono h.below.size)⟩
theorem BK.alloc {w : World} {g a : Nat} {zs : List Int} {W : World} (h : BK w g a zs W) (o : Obj) : BK w g a zs (W.alloc o) := h.next ((Below.refl _ _).alloc (Nat.le_refl _) _)
theorem BK.drewN {w : World} {g a : Nat} {zs : List Int} {W : World} (h : BK w g a zs W) (q : Nat) : BK w g a zs (W.drewN q) := h.next (below_drewN (Below.refl _ _) q)
theorem BK.foot {w : World} {g a b : Nat} {zs : List Int} {W W' : World} (h : BK w g a zs W) (hc : CurAt w.heap.size W' g zs b) (hf : Foot (fun k => k = g) W W') : BK w g b zs W' :=
  ⟨hc, h.below.trans (hf.below (fun i hi => by subst hi; exact h.cur.1) h.below.size)⟩
section
variable {w : World} {g a : Nat} {zs : List Int} {W : World}
theorem BK.take (hz : ∀ j, 0 ≤ zs.getD j 0 ∧ zs.getD j 0 ≤ 255) (h : BK w g a zs W) (wd : Nat) (h1 : 1 ≤ wd) (h2 : wd ≤ 128) (h3 : a + wd ≤ 8 * zs.length) (hi lo : Int) (hh : hi = hiOf (numOf (win (bitsL zs) a wd))) (hl : lo = loOf (numOf (win (bitsL zs) a wd))) :
    Calls Try.prog 9 #[.pointer (some ⟨g, 0, none⟩), .int .i64 (wd : Int)] W fun e W' => e = .returned (.tuple #[.agg #[.int .i64 (wd : Int), .int .u64 hi, .int .u64 lo], .int .i64 0]) ∧ BK w g (a + wd) zs W' := by
  subst hh hl
  exact (Take_ok hz h.cur wd h1 h2 h3).mono fun e W' ⟨he, hc, hf⟩ => ⟨he, h.foot hc hf⟩
theorem BK.left (h : BK w g a zs W) (r : Nat) (hr : 8 * zs.length = a + r) : Calls Try.prog 11 #[.pointer (some ⟨g, 0, none⟩)] W fun e W' => e = .returned (.int .i64 (r : Int)) ∧ BK w g a zs W' :=
  (Left_any h.cur).mono fun e W' ⟨he, q, hq⟩ => ⟨by rw [he]; congr 2; omega, by subst hq; exact h.drewN q⟩
theorem BK.at_ (h : BK w g a zs W) : Calls Try.prog 10 #[.pointer (some ⟨g, 0, none⟩)] W fun e W' => e = .returned (.int .i64 (a : Int)) ∧ W = W' := At_any h.cur
theorem BK.rest (h : BK w g a zs W) (r : Nat) (hr : zs.length - (a + 7) / 8 = r) : Calls Try.prog 12 #[.pointer (some ⟨g, 0, none⟩)] W fun e W' => ∃ A c, e = .returned (.slice A r c) ∧ BK w g a zs W' := by
  refine (Rest_any h.cur).mono fun e W' ⟨v, he, ho, hb⟩ => ?_
  obtain ⟨A, L, c, rfl, HL⟩ := own_form ho
  exact ⟨A, c, by rw [he, HL.out, hr], h.next hb⟩
end

set_option maxRecDepth 100000 in
set_option maxHeartbeats 4000000 in
theorem back_law (A : Option Addr) (n c : Nat) (xs : List Num) (w : World) (hR : ReadsNums w A n xs) (hwf : ∀ j, j < n → (xs.getD j zeroNum).wf) :
    Calls Try.prog 3 #[.slice A n c] w fun e w' => e = .returned (.bool true) ∧ Below w.heap.size w w' := by
  have hnm := hR.2.1
  by_cases hbig : 2000 < n
  · have hd : decide (2000 < (n : Int)) = true := decide_eq_true (by omega)
    clear hR
    go_enter Try.func3, Try.ntmps3
    go_wp2_with fail
    refine (alive_any _).mono ?_
    rintro e w1 ⟨rfl, hb1⟩
    go_wp2_with fail
    refine (alive_any _).mono ?_
    rintro e w2 ⟨rfl, hb2⟩
    go_wp2
    go_ret
    exact ⟨rfl, hb1.trans (hb2.mono hb1.size)⟩
  · have hd : decide (2000 < (n : Int)) = false := decide_eq_false (by omega)
    have hn2 : n ≤ 2000 := by omega
    have HR : Aside (ReadsNums w A n xs) := hR
    have HL : Aside (xs.length = n) := hR.1
    have HW : Aside (∀ j, j < n → (xs.getD j zeroNum).wf) := hwf
    clear hR hwf
    by_cases hok : allOk xs
    · have HO : Aside (allOk xs) := hok
      have htot := len_bound xs hok xs.length (Nat.le_refl _)
      rw [List.take_length, HL.out] at htot
      obtain ⟨T, hT⟩ : ∃ T, T = (allBits xs).length := ⟨_, rfl⟩
      obtain ⟨M, hM⟩ : ∃ M, M = (T + 7) / 8 := ⟨_, rfl⟩
      have hM8 : M ≤ 65536 := by omega
      have HT : Aside (T = (allBits xs).length ∧ M = (T + 7) / 8 ∧ T ≤ 128 * n) := ⟨hT, hM, by omega⟩
      have HPUT : Aside (∀ V, ReadsNums V A n xs → Calls Try.prog 7 #[.slice A n c] V fun e w' => ∃ B d, e = .returned (.tuple #[.slice B M d, .int .i64 0]) ∧ Reads w' .u8 B M (pack (allBits xs) M) ∧ Below V.heap.size V w') := by
        intro V hV
        refine (Put_ok A n c xs V hV (by omega) HW.out HO.out (by omega)).mono ?_
        rintro e w' ⟨v, he, ho, hb⟩
        rw [← hT, ← hM] at ho
        obtain ⟨B, L, d, rfl, HLL⟩ := own_form ho
        have hLM : L = M := HLL.out
        subst hLM
        exact ⟨B, d, he, own_rd' ho, hb⟩
      have hZL : (pack (allBits xs) M).length = M := pack_length _ _
      have HZ : Aside ((∀ j, 0 ≤ (pack (allBits xs) M).getD j 0 ∧ (pack (allBits xs) M).getD j 0 ≤ 255) ∧ (pack (allBits xs) M).length = M) := ⟨pack_bytes _ _, hZL⟩
      have HWIN : Aside (∀ k, k < n → (allBits (xs.take k)).length + (xs.getD k zeroNum).W.toNat ≤ 8 * M ∧ hiOf (numOf (win (bitsL (pack (allBits xs) M)) (allBits (xs.take k)).length (xs.getD k zeroNum).W.toNat)) = (xs.getD k zeroNum).Hi ∧ loOf (numOf (win (bitsL (pack (allBits xs) M)) (allBits (xs.take k)).length (xs.getD k zeroNum).W.toNat)) = (xs.getD k zeroNum).Lo) := by
        intro k hk
        have hkl : k < xs.length := by rw [HL.out]; exact hk
        have h1 := allBits_len_succ xs k hkl
        have h2 := allBits_len_take xs (k + 1)
        rw [win_pack _ _ _ _ (by omega) (by omega), allBits_win xs k hkl, Num.of_val (HW.out k hk) (HO.out k hkl)]
        exact ⟨by omega, Num.halves (HW.out k hk)⟩
      have HEND : Aside (∀ q, numOf (win (bitsL (pack (allBits xs) M)) T q) = 0) := by
        intro q
        rw [hT]
        exact win_pack_end _ _ _ (by omega)
      clear hok htot hT hM hZL
      generalize pack (allBits xs) M = zs at *
      go_enter Try.func3, Try.ntmps3
      go_wp2_with fail
      refine (alive_any _).mono ?_
      rintro e w1 ⟨rfl, hb1⟩
      go_wp2_with fail
      refine Calls.mono (HPUT.out _ (HR.out.below hb1)) ?_
      rintro e w2 ⟨B, d, rfl, hR2, hb2⟩
      have HR2 : Aside (Reads w2 .u8 B M zs) := hR2
      clear hR2
      go_wp2_with fail
      refine (New_any B M d zs _ HR2.out hM8).mono ?_
      rintro e w3 ⟨g, rfl, hc3, hb3⟩
      have hB2 : Below w.heap.size w w2 := hb1.trans (hb2.mono hb1.size)
      have K3 : BK w g 0 zs w3 := ⟨hc3.base hB2.size, hB2.trans (hb3.mono hB2.size)⟩
      clear hc3 hb3 hb1 hb2 hB2 HR2
      go_wp2
      go_loopw [7, 8] (fun s i wr => ∃ k a : Nat, k ≤ n ∧ i = .int .i64 k ∧ s = .int .i64 a ∧ Aside (a = (allBits (xs.take k)).length) ∧ BK w g a zs wr) (fun _ i _ => n - (intOf i).toNat)
      case atStart => exact ⟨0, 0, Nat.zero_le _, rfl, rfl, rfl, K3⟩
      case round =>
        obtain ⟨k, a, hk, rfl, rfl, ha, hK⟩ := hrel
        clear K3
        by_cases hlt : k < n
        · obtain ⟨b, off, hA, hbs, hcells⟩ := HR.out.2.2 (by omega)
          subst hA
          have hq : ∀ V, Below w.heap.size w V → V.cell? ⟨b, off + k * 3, none⟩ = some (.int .i64 (xs.getD k zeroNum).W) ∧ V.cell? ⟨b, off + k * 3 + 1, none⟩ = some (.int .u64 (xs.getD k zeroNum).Hi) ∧ V.cell? ⟨b, off + k * 3 + 2, none⟩ = some (.int .u64 (xs.getD k zeroNum).Lo) := by
            intro V hV
            obtain ⟨q0, q1, q2⟩ := hcells k hlt
            rw [← Nat.add_assoc] at q1 q2
            exact ⟨(hV.cell (p := ⟨_, _, _⟩) hbs).trans q0, (hV.cell (p := ⟨_, _, _⟩) hbs).trans q1, (hV.cell (p := ⟨_, _, _⟩) hbs).trans q2⟩
          have hwin := HWIN.out k hlt
          rw [← ha.out] at hwin
          have hok := HO.out k (by rw [HL.out]; exact hlt)
          have hls := allBits_len_succ xs k (by rw [HL.out]; exact hlt)
          rw [← ha.out] at hls
          generalize xs.getD k zeroNum = x at *
          obtain ⟨d, hd⟩ : ∃ d : Nat, x.W = (d : Int) := ⟨x.W.toNat, by have := hok.1; omega⟩
          have hd1 : 1 ≤ d := by have := hok.1; omega
          have hd2 : d ≤ 128 := by have := hok.2.1; omega
          rw [hd] at hwin hls
          simp only [hd] at hq
          rw [Int.toNat_natCast] at hwin hls
          obtain ⟨hfit, hhi, hlo⟩ := hwin
          have HLS : Aside ((allBits (xs.take (k + 1))).length = a + d) := hls
          generalize x.Hi = hi at *
          generalize x.Lo = lo at *
          have HTK : Aside (∀ V, BK w g a zs V → Calls Try.prog 9 #[.pointer (some ⟨g, 0, none⟩), .int .i64 (d : Int)] V fun e W' => e = .returned (.tuple #[.agg #[.int .i64 (d : Int), .int .u64 hi, .int .u64 lo], .int .i64 0]) ∧ BK w g (a + d) zs W') :=
            fun V hV => hV.take HZ.out.1 d hd1 hd2 (by rw [HZ.out.2]; exact hfit) hi lo hhi.symm hlo.symm
          have hk0 : (0 : Int) ≤ (k : Int) := by omega
          have hk1 : (k : Int) < (n : Int) := by omega
          have hM8' := hM8
          have had : a + d ≤ 524288 := by omega
          have HQ : Aside (∀ V, Below w.heap.size w V → V.cell? ⟨b, off + k * 3, none⟩ = some (.int .i64 (d : Int)) ∧ V.cell? ⟨b, off + k * 3 + 1, none⟩ = some (.int .u64 hi) ∧ V.cell? ⟨b, off + k * 3 + 2, none⟩ = some (.int .u64 lo)) := hq
          clear hcells hok hls hd hhi hlo hfit hM8' hq
          have q0 := (HQ.out _ hK.below).1
          go_wp2_with fail
          refine Calls.mono (HTK.out _ hK) ?_
          rintro e w5 ⟨rfl, hK5⟩
          clear q0
          obtain ⟨q0, q1, q2⟩ := HQ.out _ (hK5.alloc (.cells #[.int .i64 (d : Int), .int .u64 hi, .int .u64 lo] 33)).below
          have hK6 := hK5.alloc (.cells #[.int .i64 (d : Int), .int .u64 hi, .int .u64 lo] 33)
          have f0 := cellOf (heap_alloc_new w5 (.cells #[.int .i64 (d : Int), .int .u64 hi, .int .u64 lo] 33)) 0
          have f1 := cellOf (heap_alloc_new w5 (.cells #[.int .i64 (d : Int), .int .u64 hi, .int .u64 lo] 33)) 1
          have f2 := cellOf (heap_alloc_new w5 (.cells #[.int .i64 (d : Int), .int .u64 hi, .int .u64 lo] 33)) 2
          simp only [List.getElem?_toArray, List.getElem?_cons_zero, List.getElem?_cons_succ] at f0 f1 f2
          have hn0 : decide ((0 : Int) ≤ (k : Int)) = true := decide_eq_true hk0
          go_wp2_with fail
          generalize (w5.alloc (.cells #[.int .i64 (d : Int), .int .u64 hi, .int .u64 lo] 33)) = V6 at *
          go_quiet (fail)
          go_wp2
          go_roundw
          case rel => exact ⟨k + 1, a + d, by omega, by go_num, by go_num, by show _ = _; rw [HLS.out], hK6.drewN _⟩
          case measure => simp [intOf]; omega
        · obtain rfl : k = n := by omega
          have haT : a = T := by rw [ha.out, HT.out.1, show xs.take k = xs from List.take_of_length_le (by rw [HL.out]; exact Nat.le_refl _)]
          subst haT
          obtain ⟨r, hr⟩ : ∃ r, 8 * M = a + r := ⟨8 * M - a, by have := HT.out; omega⟩
          have hr7 : r ≤ 7 := by have := HT.out; omega
          have HLF : Aside (∀ V, BK w g a zs V → Calls Try.prog 11 #[.pointer (some ⟨g, 0, none⟩)] V fun e W' => e = .returned (.int .i64 (r : Int)) ∧ BK w g a zs W') := fun V h => h.left r (by rw [HZ.out.2]; exact hr)
          have HAT : Aside (∀ V, BK w g a zs V → Calls Try.prog 10 #[.pointer (some ⟨g, 0, none⟩)] V fun e W' => e = .returned (.int .i64 (a : Int)) ∧ V = W') := fun V h => h.at_
          have HRS : Aside (∀ V, BK w g a zs V → Calls Try.prog 12 #[.pointer (some ⟨g, 0, none⟩)] V fun e W' => ∃ A c, e = .returned (.slice A 0 c) ∧ BK w g a zs W') := fun V h => h.rest 0 (by rw [HZ.out.2]; have := HT.out; omega)
          have hd7 : decide (7 < (r : Int)) = false := decide_eq_false (by omega)
          have HRR : Aside (8 * M = a + r) := hr
          clear hr
          go_wp2_with fail
          refine Calls.mono (HAT.out _ hK) ?_
          rintro e w' ⟨rfl, rfl⟩
          go_wp2_with fail
          refine Calls.mono (HLF.out _ hK) ?_
          rintro e w6 ⟨rfl, hK6⟩
          go_wp2_with fail
          refine Calls.mono (HRS.out _ hK6) ?_
          rintro e w7 ⟨A7, c7, rfl, hK7⟩
          go_wp2_with fail
          refine Calls.mono (HLF.out _ hK7) ?_
          rintro e w8 ⟨rfl, hK8⟩
          by_cases hr0 : r = 0
          · have hdz : ((r : Int) == 0) = true := by simp [hr0]
            have HR0 : Aside (r = 0) := hr0
            clear hr0
            go_wp2
            go_ret
            exact ⟨rfl, hK8.below⟩
          · have hdz : ((r : Int) == 0) = false := by simp [hr0]
            have HR0 : Aside (¬ r = 0) := hr0
            clear hr0
            have HTK : Aside (∀ V, BK w g a zs V → Calls Try.prog 9 #[.pointer (some ⟨g, 0, none⟩), .int .i64 (r : Int)] V fun e W' => e = .returned (.tuple #[.agg #[.int .i64 (r : Int), .int .u64 0, .int .u64 0], .int .i64 0]) ∧ BK w g (a + r) zs W') :=
              fun V hV => hV.take HZ.out.1 r (by have := HR0.out; omega) (by omega) (by rw [HZ.out.2]; exact Nat.le_of_eq HRR.out.symm) 0 0 (by rw [HEND.out]; rfl) (by rw [HEND.out]; rfl)
            go_wp2_with fail
            refine Calls.mono (HLF.out _ hK8) ?_
            rintro e w9 ⟨rfl, hK9⟩
            go_wp2_with fail
            refine Calls.mono (HTK.out _ hK9) ?_
            rintro e w10 ⟨rfl, hK10⟩
            go_wp2
            go_ret
            exact ⟨rfl, (hK10.alloc _).below⟩
    · obtain ⟨i, hi, hbad, hpre⟩ := first_bad xs hok
      rw [HL.out] at hi
      have HPB : Aside (∀ V, ReadsNums V A n xs → Calls Try.prog 7 #[.slice A n c] V fun e w' => e = .returned (.tuple #[.slice none 0 0, .int .i64 1]) ∧ Below V.heap.size V w') :=
        fun V hV => Put_bad A n c xs V hV (by omega) HW.out i hi hbad hpre
      clear hi hbad hpre hok
      go_enter Try.func3, Try.ntmps3
      go_wp2_with fail
      refine (alive_any _).mono ?_
      rintro e w1 ⟨rfl, hb1⟩
      go_wp2_with fail
      refine Calls.mono (HPB.out _ (HR.out.below hb1)) ?_
      rintro e w2 ⟨rfl, hb2⟩
      go_wp2
      go_ret
      exact ⟨rfl, hb1.trans (hb2.mono hb1.size)⟩
end Go.Proofs.Ytipeeacplhgihaa
