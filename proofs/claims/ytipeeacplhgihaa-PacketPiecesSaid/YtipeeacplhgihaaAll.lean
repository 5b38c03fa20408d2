/-
  The iterator over the bits of numbers: packet.all.
-/
import Derived.Test.YtipeeacplhgihaaIter
import Derived.Test.YtipeeacplhgihaaBits3
set_option linter.unusedVariables false
set_option linter.unusedSimpArgs false
namespace Go.Proofs.Ytipeeacplhgihaa
open Go.RowKit Go.Shelf PkMath
attribute [local go_sem] Oper.semAt_some

theorem all_any (A : Option Addr) (n c : Nat) (w : World) : Calls Try.prog 17 #[.slice A n c] w fun e w' => e = .returned (.func (.func 26) #[] #[.pointer (some ⟨w.heap.size, 0, none⟩)]) ∧ w' = w.alloc (.cells #[.slice A n c] 22) := by
  go_enter Try.func17, Try.ntmps17
  go_wp2
  go_ret
  exact ⟨rfl, rfl⟩

theorem ReadsNums.keep {F : Nat → Prop} {w w' : World} {A : Option Addr} {n : Nat} {xs : List Num} (h : ReadsNums w A n xs) (hk : KeepC F w w') (hF : 0 < n → ∀ ad, A = some ad → ¬ F ad.block) : ReadsNums w' A n xs := by
  refine ⟨h.1, h.2.1, fun hn => ?_⟩
  obtain ⟨b, off, h1, h2, h3⟩ := h.2.2 hn
  refine ⟨b, off, h1, Nat.lt_of_lt_of_le h2 hk.size, fun j hj => ?_⟩
  obtain ⟨c0, c1, c2⟩ := h3 j hj
  have hb := hF hn _ h1
  exact ⟨hk.cell c0 hb, hk.cell c1 hb, hk.cell c2 hb⟩

/-- One bit of a number, as Go takes it. -/
theorem bit_of (z : Int) (h0 : 0 ≤ z) (h1 : z ≤ 18446744073709551615) (i : Nat) : (bits .and .u64 (z / 2 ^ i) 1 == 1) = z.toNat.testBit i := by
  obtain ⟨n, rfl⟩ := Int.eq_ofNat_of_zero_le h0
  have hp : (2 : Int) ^ i = ((2 ^ i : Nat) : Int) := by simp
  have e2 : (n : Int) / ((2 ^ i : Nat) : Int) = ((n / 2 ^ i : Nat) : Int) := (Int.natCast_ediv n (2 ^ i)).symm
  have hle : n / 2 ^ i ≤ n := Nat.div_le_self _ _
  rw [hp, e2, Int.toNat_natCast, Nat.testBit_eq_decide_div_mod_eq]
  generalize n / 2 ^ i = q at *
  have hm := bits_mask .u64 64 (by decide) wraps_u64 1 (by decide) (q : Int) (by omega) (by omega)
  rw [show (2 : Int) ^ 1 - 1 = 1 by decide, show (2 : Int) ^ 1 = 2 by decide] at hm
  rw [hm]
  rw [Bool.eq_iff_iff, beq_iff_eq, decide_eq_true_eq]
  omega
theorem val_two (x : Num) : x.val = 2 ^ 64 * x.Hi.toNat + x.Lo.toNat := by
  unfold Num.val
  rw [Nat.mul_comm (x.Hi.toNat), show (2 : Nat) ^ 64 = 18446744073709551616 by decide]
theorem bit_lo (x : Num) (hw : x.wf) (i : Nat) (hi : i < 64) : (bits .and .u64 (x.Lo / 2 ^ i) 1 == 1) = x.val.testBit i := by
  obtain ⟨_, h1, h2⟩ := hw
  rw [bit_of _ h2.1 h2.2, val_two, Nat.testBit_two_pow_mul_add _ (by rw [show (2 : Nat) ^ 64 = 18446744073709551616 by decide]; omega), if_pos hi]
theorem bit_hi (x : Num) (hw : x.wf) (i : Nat) : (bits .and .u64 (x.Hi / 2 ^ i) 1 == 1) = x.val.testBit (i + 64) := by
  obtain ⟨_, h1, h2⟩ := hw
  rw [bit_of _ h1.1 h1.2, val_two, Nat.testBit_two_pow_mul_add _ (by rw [show (2 : Nat) ^ 64 = 18446744073709551616 by decide]; omega), if_neg (by omega), Nat.add_sub_cancel]
theorem bits_take_succ (x : Num) (m t r : Nat) (hm : x.W = (m : Int)) (hr : r + 1 = m - t) : x.bits.take (t + 1) = x.bits.take t ++ [x.val.testBit r] := by
  have hl : x.bits.length = m := by rw [Num.bits_length, hm]; rfl
  rw [List.take_succ_eq_append_getElem (by omega)]
  congr 2
  have h := bitsOfNum_getD x.W.toNat x.val t (by omega)
  have hb : x.bits.getD t false = x.val.testBit r := by
    show (bitsOfNum x.W.toNat x.val).getD t false = _
    rw [h, show x.W.toNat - 1 - t = r by omega]
  rw [← hb, List.getD_eq_getElem?_getD, List.getElem?_eq_getElem (by omega)]
  rfl

set_option maxRecDepth 100000 in
set_option maxHeartbeats 2000000 in
theorem all1_in (F : Nat → Prop) (l Bn : Nat) (A : Option Addr) (n c : Nat) (xs : List Num) (hF : 0 < n → ∀ ad, A = some ad → ¬ F ad.block) (hFB : ¬ F Bn) (hwf : ∀ j, j < n → (xs.getD j zeroNum).wf ∧ (xs.getD j zeroNum).ok) (J Jx : List Bool → World → Prop)
    (W : World) (hFW : ∀ k, F k → k < W.heap.size) (hJ : AbidesFrom W.heap.size J)
    (hY : ∀ pre x W1, J pre W1 → pre.length < (allBits xs).length → YieldAt Fence.wide 1 Try.prog l #[.bool x] W1 fun e W' =>
      (e = .returned (.bool true) ∧ J (pre ++ [x]) W' ∧ KeepC F W1 W') ∨ (e = .returned (.bool false) ∧ Jx (pre ++ [x]) W'))
    (hBn : W.cell? ⟨Bn, 0, none⟩ = some (.slice A n c)) (hR : ReadsNums W A n xs) (h0 : J [] W) :
    CallsIn Fence.wide 2 Try.prog 26 #[.func (.yield l) #[] #[], .pointer (some ⟨Bn, 0, none⟩)] W fun e W' => (∃ v, e = .returned v) ∧
      ((∃ ys, ys = allBits xs ∧ J ys W') ∨ (∃ pre, pre <+: allBits xs ∧ Jx pre W')) := by
  refine callsIn_of_wp Try.func26 rfl trivial ?_ rfl
  simp only [Try.ntmps26, List.size_toArray, List.length_cons, List.length_nil, Nat.reduceAdd, Nat.reduceSub, Array.replicate_succ, Array.replicate_zero, List.push_toArray, List.append_toArray, List.nil_append, List.cons_append]
  have HR : Aside (ReadsNums W A n xs) := hR
  have HBn : Aside (W.cell? ⟨Bn, 0, none⟩ = some (.slice A n c)) := hBn
  have hnn := hR.2.1
  have HL : Aside (xs.length = n) := hR.1
  have HWF : Aside (∀ j, j < n → (xs.getD j zeroNum).wf ∧ (xs.getD j zeroNum).ok) := hwf
  clear hR hwf
  gi_wp2
  clear hBn
  gi_loopw [10] (fun i wr => ∃ k : Nat, k ≤ n ∧ i = .int .i64 k ∧ J (allBits (xs.take k)) wr ∧ KeepC F W wr)
    (fun i _ => n - (intOf i).toNat)
  case atStart => exact ⟨0, Nat.zero_le _, rfl, h0, KeepC.refl _ _⟩
  case round =>
    obtain ⟨k, hk, rfl, hJs, hK⟩ := hrel
    by_cases hlt : k < n
    · obtain ⟨b, off, hA, hbs, hcells⟩ := (HR.out.keep hK hF).2.2 (by omega)
      obtain ⟨x, hx⟩ : ∃ x, x = xs.getD k zeroNum := ⟨_, rfl⟩
      obtain ⟨q0, q1, q2⟩ := hcells k hlt
      rw [← hx] at q0 q1 q2
      rw [← Nat.add_assoc] at q1 q2
      subst hA
      have HX : Aside (x = xs.getD k zeroNum) := hx
      clear hx hcells
      have hok := HWF.out k hlt
      rw [← HX.out] at hok
      obtain ⟨m, hm⟩ : ∃ m : Nat, x.W = (m : Int) := ⟨x.W.toNat, by have := hok.2.1; omega⟩
      have hm1 : 1 ≤ m := by have := hok.2.1; omega
      have hm2 : m ≤ 128 := by have := hok.2.2.1; omega
      have HM : Aside (x.W = (m : Int) ∧ x.wf ∧ x.ok) := ⟨hm, hok.1, hok.2⟩
      rw [hm] at q0
      have hk0 : (0 : Int) ≤ (k : Int) := by omega
      have hk1 : (k : Int) < (n : Int) := by omega
      clear hm hok
      generalize hhi : x.Hi = hi at *
      generalize hlo : x.Lo = lo at *
      have HHL : Aside (x.Hi = hi ∧ x.Lo = lo) := ⟨hhi, hlo⟩
      clear hhi hlo
      obtain ⟨wo, rfl⟩ : ∃ wo : World, wo = wr := ⟨_, rfl⟩
      gi_wp2
      have HALL : Aside (allBits (xs.take (k + 1)) = allBits (xs.take k) ++ x.bits.take m) := by
        show _ = _
        rw [allBits_take_succ xs k (by rw [HL.out]; exact hlt), ← HX.out, show x.bits.take m = x.bits from List.take_of_length_le (by rw [Num.bits_length, HM.out.1]; simp)]
      have hnF : ¬ F wo.heap.size := fun h => by have h1 := hFW _ h; have h2 := hK.size; omega
      have hV : KeepC F W (wo.alloc (.cells #[.int .i64 (m : Int), .int .u64 hi, .int .u64 lo] 33)) := hK.alloc _
      have hJV : J (allBits (xs.take k) ++ x.bits.take 0) (wo.alloc (.cells #[.int .i64 (m : Int), .int .u64 hi, .int .u64 lo] 33)) := by
        rw [List.take_zero, List.append_nil]
        exact hJ _ _ _ none hJs (World.grownBy_alloc _ _ none) (fun r e => by cases e)
      have hbox : (wo.alloc (.cells #[.int .i64 (m : Int), .int .u64 hi, .int .u64 lo] 33)).heap[wo.heap.size]? = some (.cells #[.int .i64 (m : Int), .int .u64 hi, .int .u64 lo] 33 (0, 0)) := heap_alloc_new _ _
      have HBX : Aside ((wo.alloc (.cells #[.int .i64 (m : Int), .int .u64 hi, .int .u64 lo] 33)).heap[wo.heap.size]? = some (.cells #[.int .i64 (m : Int), .int .u64 hi, .int .u64 lo] 33 (0, 0))) := hbox
      have HS0 : Aside (wo.heap.size < (wo.alloc (.cells #[.int .i64 (m : Int), .int .u64 hi, .int .u64 lo] 33)).heap.size) := by simp [Aside]
      clear hbox q0 q1 q2
      generalize hg : wo.heap.size = g at *
      clear hg
      generalize hw2 : wo.alloc (.cells #[.int .i64 (m : Int), .int .u64 hi, .int .u64 lo] 33) = w2 at *
      clear hw2 hJs
      gi_loopw [5] (fun i wr => ∃ t : Nat, t ≤ m ∧ i = .int .i64 (((m - t : Nat) : Int) - 1) ∧ J (allBits (xs.take k) ++ x.bits.take t) wr ∧ KeepC F w2 wr)
        (fun i _ => (intOf i + 1).toNat)
      case atStart => exact ⟨0, Nat.zero_le _, by simp, hJV, KeepC.refl _ _⟩
      case round =>
        obtain ⟨t, ht, rfl, hJt, hK2⟩ := hrel
        by_cases htm : t < m
        · obtain ⟨r, hr⟩ : ∃ r : Nat, m - t = r + 1 := ⟨m - t - 1, by omega⟩
          have e1 : ((m - t : Nat) : Int) - 1 = (r : Int) := by omega
          have hr0 : (0 : Int) ≤ (r : Int) := by omega
          have hr1 : (r : Int) ≤ 127 := by omega
          rw [e1]
          have hb2 := hK2.block _ _ _ _ HBX.out hnF
          have p1 : wr.cell? ⟨g, 1, none⟩ = some (.int .u64 hi) := cellOf hb2 1
          have p2 : wr.cell? ⟨g, 2, none⟩ = some (.int .u64 lo) := cellOf hb2 2
          have hnext : allBits (xs.take k) ++ x.bits.take t ++ [x.val.testBit r] = allBits (xs.take k) ++ x.bits.take (t + 1) := by
            rw [bits_take_succ x m t r HM.out.1 (by omega), List.append_assoc]
          have hpre : allBits (xs.take k) ++ x.bits.take (t + 1) <+: allBits xs := by
            rw [allBits_split xs k (by rw [HL.out]; exact hlt), ← HX.out]
            conv => rhs; rw [← List.take_append_drop (t + 1) x.bits, List.append_assoc, ← List.append_assoc]
            exact List.prefix_append _ _
          have hlen : (allBits (xs.take k) ++ x.bits.take t).length < (allBits xs).length := by
            have h1 := hpre.length_le
            rw [← hnext, List.length_append, List.length_singleton] at h1
            omega
          have HPRE : Aside (allBits (xs.take k) ++ x.bits.take (t + 1) <+: allBits xs) := hpre
          obtain ⟨fn, tmps, assign, body, hy, hR⟩ := hY _ (x.val.testBit r) wr hJt hlen
          rw [hnext] at hR
          have HNX : Aside (r + 1 = m - t) := hr.symm
          clear hnext hlen hr e1 hb2 hpre
          by_cases h64 : r < 64
          · have hbit : (bits .and .u64 (lo / 2 ^ r) 1 == 1) = x.val.testBit r := by rw [← HHL.out.2]; exact bit_lo x HM.out.2.1 r h64
            generalize x.val.testBit r = bt at *
            have h64' : (r : Int) < 64 := by omega
            gi_wp2
            refine hR.mono ?_
            rintro e W3 (⟨rfl, hJ3, hk3⟩ | ⟨rfl, hJx3⟩)
            · gi_wp2
              go_roundw
              case rel => exact ⟨t + 1, by have := HNX.out; omega, by rw [show m - (t + 1) = r by have := HNX.out; omega], hJ3, hK2.trans hk3⟩
              case measure => (simp [intOf]; try omega)
            · gi_wp2
              refine bodyPost_ret (results_none rfl _ _ _) rfl ?_
              exact ⟨⟨_, rfl⟩, .inr ⟨_, HPRE.out, hJx3⟩⟩
          · obtain ⟨r2, rfl⟩ : ∃ r2, r = r2 + 64 := ⟨r - 64, by omega⟩
            have hbit : (bits .and .u64 (hi / 2 ^ r2) 1 == 1) = x.val.testBit (r2 + 64) := by rw [← HHL.out.1]; exact bit_hi x HM.out.2.1 r2
            generalize x.val.testBit (r2 + 64) = bt at *
            have h64' : (64 : Int) ≤ ((r2 + 64 : Nat) : Int) := by omega
            have s1 : ((r2 + 64 : Nat) : Int) - 64 = (r2 : Int) := by omega
            have s2 : (0 : Int) ≤ (r2 : Int) := by omega
            generalize hrr : ((r2 + 64 : Nat) : Int) = rr at *
            have HRR : Aside (((r2 + 64 : Nat) : Int) = rr) := hrr
            clear hrr
            gi_wp2
            refine hR.mono ?_
            rintro e W3 (⟨rfl, hJ3, hk3⟩ | ⟨rfl, hJx3⟩)
            · gi_wp2
              go_roundw
              case rel => exact ⟨t + 1, by have := HNX.out; omega, by rw [show m - (t + 1) = r2 + 64 by have := HNX.out; omega, HRR.out], hJ3, hK2.trans hk3⟩
              case measure => (simp [intOf]; try omega)
            · gi_wp2
              refine bodyPost_ret (results_none rfl _ _ _) rfl ?_
              exact ⟨⟨_, rfl⟩, .inr ⟨_, HPRE.out, hJx3⟩⟩
        · obtain rfl : t = m := by omega
          have e1 : (((t - t : Nat) : Int) - 1) = -1 := by omega
          rw [e1]
          gi_wp2
          go_roundw
          case rel => exact ⟨k + 1, by omega, by go_num, by rw [HALL.out]; exact hJt, hV.trans hK2⟩
          case measure => (simp [intOf]; try omega)
    · obtain rfl : k = n := by omega
      gi_wp2
      go_end0
      have e : xs.take k = xs := List.take_of_length_le (by rw [HL.out]; exact Nat.le_refl _)
      exact ⟨⟨_, rfl⟩, .inl ⟨_, rfl, by rw [e] at hJs; exact hJs⟩⟩
end Go.Proofs.Ytipeeacplhgihaa
