/-
  The iterator over the bits of numbers: packet.all.
-/
import Derived.Test.YtmoakgkoahjijaaGreatDoorPpA
import Derived.StillTailTactics
import Derived.Deep.QuietTactic
import Derived.OrdersIn
import Derived.Laws.MakeOwn
import Derived.Test.YtmoakgkoahjijaaGreatDoorProg
import Derived.Deep.Quiet
import Derived.TacticsIn
import Derived.CallsIn
import Derived.RangeFuncCalls
import Derived.OrdersHeld
import Derived.BigRegion
import Derived.Deep.DeepCutAuto
import Derived.BigQuiet
set_option linter.unusedVariables false
set_option linter.unusedSimpArgs false
namespace Go.Proofs.YtmoakgkoahjijaaGreatDoor
open Go.RowKit Go.Shelf PkMath
attribute [local go_sem] Oper.semAt_some

theorem all_any (A : Option Addr) (n c : Nat) (w : World) : Calls Tryz.prog 41 #[.slice A n c] w fun e w' => e = .returned (.func (.func 144) #[] #[.pointer (some ⟨w.heap.size, 0, none⟩)]) ∧ w' = w.alloc (.cells #[.slice A n c] 22) := by
  go_enter Tryz.func41, Tryz.ntmps41
  go_wp2
  go_ret
  exact ⟨rfl, rfl⟩

theorem ReadsNums.keep {F : Nat → Prop} {w w' : World} {A : Option Addr} {n : Nat} {xs : List Num} (h : ReadsNums w A n xs) (hk : KeepC F w w') (hF : 0 < n → ∀ ad, A = some ad → ¬ F ad.block) : ReadsNums w' A n xs := by
  refine ⟨h.1, h.2.1, fun hn => ?_⟩
  obtain ⟨b, off, h1, h2, h3⟩ := h.2.2 hn
  refine ⟨b, off, h1, Nat.lt_of_lt_of_le h2 hk.size, fun j hj => ?_⟩
  obtain ⟨c0, c1, c2⟩ := h3 j hj
  have hb := hF hn _ h1
  exact ⟨hk.cell c0 hb, hk.cell c1 hb, hk.cell c2 hb⟩

/-- One bit of a number, as Go takes it. -/
theorem bit_of (z : Int) (h0 : 0 ≤ z) (h1 : z ≤ 18446744073709551615) (i : Nat) : (bits .and .u64 (z / 2 ^ i) 1 == 1) = z.toNat.testBit i := by
  obtain ⟨n, rfl⟩ := Int.eq_ofNat_of_zero_le h0
  have hp : (2 : Int) ^ i = ((2 ^ i : Nat) : Int) := by simp
  have e2 : (n : Int) / ((2 ^ i : Nat) : Int) = ((n / 2 ^ i : Nat) : Int) := (Int.natCast_ediv n (2 ^ i)).symm
  have hle : n / 2 ^ i ≤ n := Nat.div_le_self _ _
  rw [hp, e2, Int.toNat_natCast, Nat.testBit_eq_decide_div_mod_eq]
  generalize n / 2 ^ i = q at *
  have hm := bits_mask .u64 64 (by decide) wraps_u64 1 (by decide) (q : Int) (by omega) (by omega)
  rw [show (2 : Int) ^ 1 - 1 = 1 by decide, show (2 : Int) ^ 1 = 2 by decide] at hm
  rw [hm]
  rw [Bool.eq_iff_iff, beq_iff_eq, decide_eq_true_eq]
  omega
theorem val_two (x : Num) : x.val = 2 ^ 64 * x.Hi.toNat + x.Lo.toNat := by
  unfold Num.val
  rw [Nat.mul_comm (x.Hi.toNat), show (2 : Nat) ^ 64 = 18446744073709551616 by decide]
theorem bit_lo (x : Num) (hw : x.wf) (i : Nat) (hi : i < 64) : (bits .and .u64 (x.Lo / 2 ^ i) 1 == 1) = x.val.testBit i := by
  obtain ⟨_, h1, h2⟩ := hw
  rw [bit_of _ h2.1 h2.2, val_two, Nat.testBit_two_pow_mul_add _ (by rw [show (2 : Nat) ^ 64 = 18446744073709551616 by decide]; omega), if_pos hi]
theorem bit_hi (x : Num) (hw : x.wf) (i : Nat) : (bits .and .u64 (x.Hi / 2 ^ i) 1 == 1) = x.val.testBit (i + 64) := by
  obtain ⟨_, h1, h2⟩ := hw
  rw [bit_of _ h1.1 h1.2, val_two, Nat.testBit_two_pow_mul_add _ (by rw [show (2 : Nat) ^ 64 = 18446744073709551616 by decide]; omega), if_neg (by omega), Nat.add_sub_cancel]
theorem bits_take_succ (x : Num) (m t r : Nat) (hm : x.W = (m : Int)) (hr : r + 1 = m - t) : x.bits.take (t + 1) = x.bits.take t ++ [x.val.testBit r] := by
  have hl : x.bits.length = m := by rw [Num.bits_length, hm]; rfl
  rw [List.take_succ_eq_append_getElem (by omega)]
  congr 2
  have h := bitsOfNum_getD x.W.toNat x.val t (by omega)
  have hb : x.bits.getD t false = x.val.testBit r := by
    show (bitsOfNum x.W.toNat x.val).getD t false = _
    rw [h, show x.W.toNat - 1 - t = r by omega]
  rw [← hb, List.getD_eq_getElem?_getD, List.getElem?_eq_getElem (by omega)]
  rfl

set_option maxRecDepth 100000 in
set_option maxHeartbeats 2000000 in
theorem all1_in (F : Nat → Prop) (l Bn : Nat) (A : Option Addr) (n c : Nat) (xs : List Num) (hF : 0 < n → ∀ ad, A = some ad → ¬ F ad.block) (hFB : ¬ F Bn) (hwf : ∀ j, j < n → (xs.getD j zeroNum).wf ∧ (xs.getD j zeroNum).ok) (J Jx : List Bool → World → Prop)
    (W : World) (hFW : ∀ k, F k → k < W.heap.size) (hJ : AbidesFrom W.heap.size J)
    (hY : ∀ pre x W1, J pre W1 → pre.length < (allBits xs).length → YieldAt Fence.wide 1 Tryz.prog l #[.bool x] W1 fun e W' =>
      (e = .returned (.bool true) ∧ J (pre ++ [x]) W' ∧ KeepC F W1 W') ∨ (e = .returned (.bool false) ∧ Jx (pre ++ [x]) W'))
    (hBn : W.cell? ⟨Bn, 0, none⟩ = some (.slice A n c)) (hR : ReadsNums W A n xs) (h0 : J [] W) :
    CallsIn Fence.wide 2 Tryz.prog 144 #[.func (.yield l) #[] #[], .pointer (some ⟨Bn, 0, none⟩)] W fun e W' => (∃ v, e = .returned v) ∧
      ((∃ ys, ys = allBits xs ∧ J ys W') ∨ (∃ pre, pre <+: allBits xs ∧ Jx pre W')) := by
  refine callsIn_of_wp Tryz.func144 rfl trivial ?_ rfl
  simp only [Tryz.ntmps144, List.size_toArray, List.length_cons, List.length_nil, Nat.reduceAdd, Nat.reduceSub, Array.replicate_succ, Array.replicate_zero, List.push_toArray, List.append_toArray, List.nil_append, List.cons_append]
  have HR : Aside (ReadsNums W A n xs) := hR
  have HBn : Aside (W.cell? ⟨Bn, 0, none⟩ = some (.slice A n c)) := hBn
  have hnn := hR.2.1
  have HL : Aside (xs.length = n) := hR.1
  have HWF : Aside (∀ j, j < n → (xs.getD j zeroNum).wf ∧ (xs.getD j zeroNum).ok) := hwf
  clear hR hwf
  gi_wp2
  clear hBn
  gi_loopw [10] (fun i wr => ∃ k : Nat, k ≤ n ∧ i = .int .i64 k ∧ J (allBits (xs.take k)) wr ∧ KeepC F W wr)
    (fun i _ => n - (intOf i).toNat)
  case atStart => exact ⟨0, Nat.zero_le _, rfl, h0, KeepC.refl _ _⟩
  case round =>
    obtain ⟨k, hk, rfl, hJs, hK⟩ := hrel
    by_cases hlt : k < n
    · obtain ⟨b, off, hA, hbs, hcells⟩ := (HR.out.keep hK hF).2.2 (by omega)
      obtain ⟨x, hx⟩ : ∃ x, x = xs.getD k zeroNum := ⟨_, rfl⟩
      obtain ⟨q0, q1, q2⟩ := hcells k hlt
      rw [← hx] at q0 q1 q2
      rw [← Nat.add_assoc] at q1 q2
      subst hA
      have HX : Aside (x = xs.getD k zeroNum) := hx
      clear hx hcells
      have hok := HWF.out k hlt
      rw [← HX.out] at hok
      obtain ⟨m, hm⟩ : ∃ m : Nat, x.W = (m : Int) := ⟨x.W.toNat, by have := hok.2.1; omega⟩
      have hm1 : 1 ≤ m := by have := hok.2.1; omega
      have hm2 : m ≤ 128 := by have := hok.2.2.1; omega
      have HM : Aside (x.W = (m : Int) ∧ x.wf ∧ x.ok) := ⟨hm, hok.1, hok.2⟩
      rw [hm] at q0
      have hk0 : (0 : Int) ≤ (k : Int) := by omega
      have hk1 : (k : Int) < (n : Int) := by omega
      clear hm hok
      generalize hhi : x.Hi = hi at *
      generalize hlo : x.Lo = lo at *
      have HHL : Aside (x.Hi = hi ∧ x.Lo = lo) := ⟨hhi, hlo⟩
      clear hhi hlo
      obtain ⟨wo, rfl⟩ : ∃ wo : World, wo = wr := ⟨_, rfl⟩
      gi_wp2
      have HALL : Aside (allBits (xs.take (k + 1)) = allBits (xs.take k) ++ x.bits.take m) := by
        show _ = _
        rw [allBits_take_succ xs k (by rw [HL.out]; exact hlt), ← HX.out, show x.bits.take m = x.bits from List.take_of_length_le (by rw [Num.bits_length, HM.out.1]; simp)]
      have hnF : ¬ F wo.heap.size := fun h => by have h1 := hFW _ h; have h2 := hK.size; omega
      have hV : KeepC F W (wo.alloc (.cells #[.int .i64 (m : Int), .int .u64 hi, .int .u64 lo] 79)) := hK.alloc _
      have hJV : J (allBits (xs.take k) ++ x.bits.take 0) (wo.alloc (.cells #[.int .i64 (m : Int), .int .u64 hi, .int .u64 lo] 79)) := by
        rw [List.take_zero, List.append_nil]
        exact hJ _ _ _ none hJs (World.grownBy_alloc _ _ none) (fun r e => by cases e)
      have hbox : (wo.alloc (.cells #[.int .i64 (m : Int), .int .u64 hi, .int .u64 lo] 79)).heap[wo.heap.size]? = some (.cells #[.int .i64 (m : Int), .int .u64 hi, .int .u64 lo] 79 (0, 0)) := heap_alloc_new _ _
      have HBX : Aside ((wo.alloc (.cells #[.int .i64 (m : Int), .int .u64 hi, .int .u64 lo] 79)).heap[wo.heap.size]? = some (.cells #[.int .i64 (m : Int), .int .u64 hi, .int .u64 lo] 79 (0, 0))) := hbox
      have HS0 : Aside (wo.heap.size < (wo.alloc (.cells #[.int .i64 (m : Int), .int .u64 hi, .int .u64 lo] 79)).heap.size) := by simp [Aside]
      clear hbox q0 q1 q2
      generalize hg : wo.heap.size = g at *
      clear hg
      generalize hw2 : wo.alloc (.cells #[.int .i64 (m : Int), .int .u64 hi, .int .u64 lo] 79) = w2 at *
      clear hw2 hJs
      gi_loopw [5] (fun i wr => ∃ t : Nat, t ≤ m ∧ i = .int .i64 (((m - t : Nat) : Int) - 1) ∧ J (allBits (xs.take k) ++ x.bits.take t) wr ∧ KeepC F w2 wr)
        (fun i _ => (intOf i + 1).toNat)
      case atStart => exact ⟨0, Nat.zero_le _, by simp, hJV, KeepC.refl _ _⟩
      case round =>
        obtain ⟨t, ht, rfl, hJt, hK2⟩ := hrel
        by_cases htm : t < m
        · obtain ⟨r, hr⟩ : ∃ r : Nat, m - t = r + 1 := ⟨m - t - 1, by omega⟩
          have e1 : ((m - t : Nat) : Int) - 1 = (r : Int) := by omega
          have hr0 : (0 : Int) ≤ (r : Int) := by omega
          have hr1 : (r : Int) ≤ 127 := by omega
          rw [e1]
          have hb2 := hK2.block _ _ _ _ HBX.out hnF
          have p1 : wr.cell? ⟨g, 1, none⟩ = some (.int .u64 hi) := cellOf hb2 1
          have p2 : wr.cell? ⟨g, 2, none⟩ = some (.int .u64 lo) := cellOf hb2 2
          have hnext : allBits (xs.take k) ++ x.bits.take t ++ [x.val.testBit r] = allBits (xs.take k) ++ x.bits.take (t + 1) := by
            rw [bits_take_succ x m t r HM.out.1 (by omega), List.append_assoc]
          have hpre : allBits (xs.take k) ++ x.bits.take (t + 1) <+: allBits xs := by
            rw [allBits_split xs k (by rw [HL.out]; exact hlt), ← HX.out]
            conv => rhs; rw [← List.take_append_drop (t + 1) x.bits, List.append_assoc, ← List.append_assoc]
            exact List.prefix_append _ _
          have hlen : (allBits (xs.take k) ++ x.bits.take t).length < (allBits xs).length := by
            have h1 := hpre.length_le
            rw [← hnext, List.length_append, List.length_singleton] at h1
            omega
          have HPRE : Aside (allBits (xs.take k) ++ x.bits.take (t + 1) <+: allBits xs) := hpre
          obtain ⟨fn, tmps, assign, body, hy, hR⟩ := hY _ (x.val.testBit r) wr hJt hlen
          rw [hnext] at hR
          have HNX : Aside (r + 1 = m - t) := hr.symm
          clear hnext hlen hr e1 hb2 hpre
          by_cases h64 : r < 64
          · have hbit : (bits .and .u64 (lo / 2 ^ r) 1 == 1) = x.val.testBit r := by rw [← HHL.out.2]; exact bit_lo x HM.out.2.1 r h64
            generalize x.val.testBit r = bt at *
            have h64' : (r : Int) < 64 := by omega
            gi_wp2
            refine hR.mono ?_
            rintro e W3 (⟨rfl, hJ3, hk3⟩ | ⟨rfl, hJx3⟩)
            · gi_wp2
              go_roundw
              case rel => exact ⟨t + 1, by have := HNX.out; omega, by rw [show m - (t + 1) = r by have := HNX.out; omega], hJ3, hK2.trans hk3⟩
              case measure => (simp [intOf]; try omega)
            · gi_wp2
              refine bodyPost_ret (results_none rfl _ _ _) rfl ?_
              exact ⟨⟨_, rfl⟩, .inr ⟨_, HPRE.out, hJx3⟩⟩
          · obtain ⟨r2, rfl⟩ : ∃ r2, r = r2 + 64 := ⟨r - 64, by omega⟩
            have hbit : (bits .and .u64 (hi / 2 ^ r2) 1 == 1) = x.val.testBit (r2 + 64) := by rw [← HHL.out.1]; exact bit_hi x HM.out.2.1 r2
            generalize x.val.testBit (r2 + 64) = bt at *
            have h64' : (64 : Int) ≤ ((r2 + 64 : Nat) : Int) := by omega
            have s1 : ((r2 + 64 : Nat) : Int) - 64 = (r2 : Int) := by omega
            have s2 : (0 : Int) ≤ (r2 : Int) := by omega
            generalize hrr : ((r2 + 64 : Nat) : Int) = rr at *
            have HRR : Aside (((r2 + 64 : Nat) : Int) = rr) := hrr
            clear hrr
            gi_wp2
            refine hR.mono ?_
            rintro e W3 (⟨rfl, hJ3, hk3⟩ | ⟨rfl, hJx3⟩)
            · gi_wp2
              go_roundw
              case rel => exact ⟨t + 1, by have := HNX.out; omega, by rw [show m - (t + 1) = r2 + 64 by have := HNX.out; omega, HRR.out], hJ3, hK2.trans hk3⟩
              case measure => (simp [intOf]; try omega)
            · gi_wp2
              refine bodyPost_ret (results_none rfl _ _ _) rfl ?_
              exact ⟨⟨_, rfl⟩, .inr ⟨_, HPRE.out, hJx3⟩⟩
        · obtain rfl : t = m := by omega
          have e1 : (((t - t : Nat) : Int) - 1) = -1 := by omega
          rw [e1]
          gi_wp2
          go_roundw
          case rel => exact ⟨k + 1, by omega, by go_num, by rw [HALL.out]; exact hJt, hV.trans hK2⟩
          case measure => (simp [intOf]; try omega)
    · obtain rfl : k = n := by omega
      gi_wp2
      go_end0
      have e : xs.take k = xs := List.take_of_length_le (by rw [HL.out]; exact Nat.le_refl _)
      exact ⟨⟨_, rfl⟩, .inl ⟨_, rfl, by rw [e] at hJs; exact hJs⟩⟩
end Go.Proofs.YtmoakgkoahjijaaGreatDoor

/- packet.Put, where it refuses. -/
set_option linter.unusedVariables false
set_option linter.unusedSimpArgs false
namespace Go.Proofs.YtmoakgkoahjijaaGreatDoor
open Go.RowKit PkMath

/-- May all numbers be? -/
def allOk (xs : List Num) : Prop := ∀ j, j < xs.length → (xs.getD j zeroNum).ok
theorem len_bound (xs : List Num) (h : allOk xs) : ∀ k, k ≤ xs.length → (allBits (xs.take k)).length ≤ 128 * k := by
  intro k
  induction k with
  | zero => intro _; simp [allBits]
  | succ k ih =>
    intro hk
    rw [allBits_len_succ _ _ (by omega)]
    have := ih (by omega)
    have := (h k (by omega)).2.1
    omega

set_option maxRecDepth 100000 in
set_option maxHeartbeats 2000000 in
/-- The first one that may not be. -/
theorem Put_bad (A : Option Addr) (n c : Nat) (xs : List Num) (w : World) (hR : ReadsNums w A n xs) (hn : n ≤ 1048576) (hwf : ∀ j, j < n → (xs.getD j zeroNum).wf) (i : Nat) (hi : i < n) (hbad : ¬ (xs.getD i zeroNum).ok) (hok : ∀ j, j < i → (xs.getD j zeroNum).ok) :
    Calls Tryz.prog 7 #[.slice A n c] w fun e w' => e = .returned (.tuple #[.slice none 0 0, .int .i64 1]) ∧ Below w.heap.size w w' := by
  have HR : Aside (ReadsNums w A n xs) := hR
  have HW : Aside (∀ j, j < n → (xs.getD j zeroNum).wf) := hwf
  have HB : Aside (¬ (xs.getD i zeroNum).ok) := hbad
  have HO : Aside (∀ j, j < i → (xs.getD j zeroNum).ok) := hok
  clear hR hwf hbad hok
  go_enter Tryz.func7, Tryz.ntmps7
  go_wp2
  go_loopw [4, 12] (fun s i' wr => ∃ (k m : Nat), k ≤ i ∧ i' = .int .i64 k ∧ s = .int .i64 m ∧ m ≤ 128 * k ∧ Below w.heap.size w wr) (fun _ i' _ => n - (intOf i').toNat)
  case atStart => exact ⟨0, 0, Nat.zero_le _, rfl, rfl, Nat.le_refl _, Below.refl _ _⟩
  case round =>
    obtain ⟨k, m, hk, rfl, rfl, hm, hB⟩ := hrel
    obtain ⟨b, off, hA, hbs, hcells⟩ := (HR.out.below hB).2.2 (by omega)
    subst hA
    obtain ⟨q0, q1, q2⟩ := hcells k (by omega)
    rw [← Nat.add_assoc] at q1 q2
    obtain ⟨x, hx⟩ : ∃ x, x = xs.getD k zeroNum := ⟨_, rfl⟩
    rw [← hx] at q0 q1 q2
    have hwf := HW.out k (by omega)
    rw [← hx] at hwf
    have hk0 : (0 : Int) ≤ (k : Int) := by omega
    have hk1 : (k : Int) < (n : Int) := by omega
    clear hcells
    have hsz := hB.size
    by_cases hki : k = i
    · have hnok : ¬ x.ok := by rw [hx, hki]; exact HB.out
      have HC : Aside (∀ V, Calls Tryz.prog 40 #[x.v] V fun e w' => e = .returned (.bool false) ∧ Below V.heap.size V w') := fun V => check_bad x hwf hnok V
      clear hx hwf hnok hki
      obtain ⟨W, hi', lo⟩ := x
      unfold Num.v at HC
      simp only at q0 q1 q2 HC
      go_wp2_with fail
      refine Calls.mono (HC.out _) ?_
      rintro e w5 ⟨rfl, hb5⟩
      go_wp2
      go_ret2
      exact ⟨rfl, (hB.alloc hsz _).trans (hb5.mono (by simp; omega))⟩
    · have hok := HO.out k (by omega)
      rw [← hx] at hok
      have HC : Aside (∀ V, Calls Tryz.prog 40 #[x.v] V fun e w' => e = .returned (.bool true) ∧ Below V.heap.size V w') := fun V => check_good x hwf hok V
      have hW1 := hok.1
      have hW2 := hok.2.1
      obtain ⟨d, hd⟩ : ∃ d : Nat, x.W = (d : Int) := ⟨x.W.toNat, by omega⟩
      clear hx hwf hok
      obtain ⟨W, hi', lo⟩ := x
      unfold Num.v at HC
      simp only at q0 q1 q2 HC hW1 hW2 hd
      subst hd
      go_wp2_with fail
      refine Calls.mono (HC.out _) ?_
      rintro e w5 ⟨rfl, hb5⟩
      have h6 := (hb5.block wr.heap.size (by simp)).trans (heap_alloc_new wr (.cells #[.int .i64 (d : Int), .int .u64 hi', .int .u64 lo] 79))
      have p0 := cellOf h6 0
      simp only [List.getElem?_toArray, List.getElem?_cons_zero] at p0
      clear h6
      have hadd : (m : Int) + (d : Int) ≤ 9223372036854775807 := by omega
      have hadd0 : (0 : Int) ≤ (m : Int) + (d : Int) := by omega
      go_wp2
      go_roundw
      case rel => exact ⟨k + 1, m + d, by omega, by go_num, by go_num, by omega, (hB.alloc hsz _).trans (hb5.mono (by simp; omega))⟩
      case measure => simp [intOf]; omega

set_option maxRecDepth 100000 in
set_option maxHeartbeats 2000000 in
/-- Too many bits. -/
theorem Put_big (A : Option Addr) (n c : Nat) (xs : List Num) (w : World) (hR : ReadsNums w A n xs) (hn : n ≤ 1048576) (hwf : ∀ j, j < n → (xs.getD j zeroNum).wf) (hok : allOk xs) (hbig : 524288 < (allBits xs).length) :
    Calls Tryz.prog 7 #[.slice A n c] w fun e w' => e = .returned (.tuple #[.slice none 0 0, .int .i64 3]) ∧ Below w.heap.size w w' := by
  have HR : Aside (ReadsNums w A n xs) := hR
  have HL : Aside (xs.length = n) := hR.1
  have HW : Aside (∀ j, j < n → (xs.getD j zeroNum).wf) := hwf
  have HO : Aside (allOk xs) := hok
  have HBIG : Aside (524288 < (allBits xs).length) := hbig
  clear hR hwf hok hbig
  go_enter Tryz.func7, Tryz.ntmps7
  go_wp2
  go_loopw [4, 12] (fun s i' wr => ∃ (k m : Nat), k ≤ n ∧ i' = .int .i64 k ∧ s = .int .i64 m ∧ Aside (m = (allBits (xs.take k)).length) ∧ Below w.heap.size w wr) (fun _ i' _ => n - (intOf i').toNat)
  case atStart => exact ⟨0, 0, Nat.zero_le _, rfl, rfl, rfl, Below.refl _ _⟩
  case round =>
    obtain ⟨k, m, hk, rfl, rfl, hm, hB⟩ := hrel
    have hsz := hB.size
    have hmb : m ≤ 128 * k := by rw [hm.out]; exact len_bound xs HO.out k (by rw [HL.out]; exact hk)
    by_cases hlt : k < n
    · obtain ⟨b, off, hA, hbs, hcells⟩ := (HR.out.below hB).2.2 (by omega)
      subst hA
      obtain ⟨q0, q1, q2⟩ := hcells k (by omega)
      rw [← Nat.add_assoc] at q1 q2
      obtain ⟨x, hx⟩ : ∃ x, x = xs.getD k zeroNum := ⟨_, rfl⟩
      rw [← hx] at q0 q1 q2
      have hwf := HW.out k (by omega)
      rw [← hx] at hwf
      have hk0 : (0 : Int) ≤ (k : Int) := by omega
      have hk1 : (k : Int) < (n : Int) := by omega
      clear hcells
      have hok := HO.out k (by rw [HL.out]; exact hlt)
      rw [← hx] at hok
      have HC : Aside (∀ V, Calls Tryz.prog 40 #[x.v] V fun e w' => e = .returned (.bool true) ∧ Below V.heap.size V w') := fun V => check_good x hwf hok V
      have hW1 := hok.1
      have hW2 := hok.2.1
      obtain ⟨d, hd⟩ : ∃ d : Nat, x.W = (d : Int) := ⟨x.W.toNat, by omega⟩
      have HS : Aside ((allBits (xs.take (k + 1))).length = (allBits (xs.take k)).length + d) := by
        show _ = _
        rw [allBits_len_succ _ _ (by rw [HL.out]; exact hlt), ← hx, hd]
        rfl
      clear hx hwf hok
      obtain ⟨W, hi', lo⟩ := x
      unfold Num.v at HC
      simp only at q0 q1 q2 HC hW1 hW2 hd
      subst hd
      go_wp2_with fail
      refine Calls.mono (HC.out _) ?_
      rintro e w5 ⟨rfl, hb5⟩
      have h6 := (hb5.block wr.heap.size (by simp)).trans (heap_alloc_new wr (.cells #[.int .i64 (d : Int), .int .u64 hi', .int .u64 lo] 79))
      have p0 := cellOf h6 0
      simp only [List.getElem?_toArray, List.getElem?_cons_zero] at p0
      clear h6
      have hadd : (m : Int) + (d : Int) ≤ 9223372036854775807 := by omega
      have hadd0 : (0 : Int) ≤ (m : Int) + (d : Int) := by omega
      go_wp2
      go_roundw
      case rel => exact ⟨k + 1, m + d, by omega, by go_num, by go_num, by show _ = _; rw [HS.out, ← hm.out], (hB.alloc hsz _).trans (hb5.mono (by simp; omega))⟩
      case measure => simp [intOf]; omega
    · obtain rfl : k = n := by omega
      have hmm : 524288 < m := by
        rw [hm.out, show xs.take k = xs from List.take_of_length_le (by rw [HL.out]; exact Nat.le_refl _)]; exact HBIG.out
      have hd : decide (524288 < (m : Int)) = true := decide_eq_true (by omega)
      go_wp2
      go_ret2
      exact ⟨rfl, hB⟩
end Go.Proofs.YtmoakgkoahjijaaGreatDoor

/- A region that draws its order, within a round of a range over a function, by the laws of such a region elsewhere. -/
set_option linter.unusedVariables false
set_option linter.unusedSimpArgs false
namespace Go.Proofs.YtmoakgkoahjijaaGreatDoor
open Go.RowKit

variable {P : Program} {n l : Nat}

theorem rowsIn_round {row : String} {args : Array Value} {w : World} {R : Value → World → Prop} (h : Rows P row args w R) : RowsIn (Fence.wide.inRound l) n P row args w R :=
  fun c cs _ => let ⟨v, w', r, s⟩ := h c cs; ⟨v, w', r, stepsIn_wide.2 s⟩
theorem opIn_round {o : Oper} {a : Act} {w : World} {K K' : Act → World → Prop} {Q : Exit → Act → World → Prop} (hd : ∀ c, o.op ≠ .defer c) (h : ∀ a w, K a w → K' a w) (hh : o.wp P a w K Q) : o.wpIn (Fence.wide.inRound l) n P a w K' Q := by
  unfold Oper.wp at hh
  refine ⟨fun _ _ => trivial, ?_⟩
  rw [Oper.semAt_eq _ _ _ hd]
  generalize (execOp a.eval o).run P w = r at *
  cases r with
  | ok x w' =>
    cases x <;> simp only [Oper.upon] at hh <;> simp only [Oper.uponIn]
    case enter f args =>
      refine ⟨fun h => by simp [Fence.inRound, Fence.wide] at h, CallsIn.inRound l (callsIn_wide.2 (hh.mono fun e w'' he => ?_))⟩
      cases e <;> first | exact h _ _ he | exact he
    case row row args => exact ⟨fun h => by simp [Fence.inRound, Fence.wide] at h, rowsIn_round (hh.mono fun v w'' hk => h _ _ hk)⟩
    all_goals first | exact h _ _ hh | exact hh
  | halt x w' => cases x <;> simp only [Oper.upon] at hh <;> simp only [Oper.uponIn] <;> exact hh
theorem wpOpIn_round {ops : Array Oper} {i : Nat} {a : Act} {w : World} {K K' : Act → World → Prop} {Q : Exit → Act → World → Prop} (hd : ∀ (j : Nat) o, ops[j]? = some o → ∀ c, o.op ≠ .defer c) (hQ : ¬ LetsOut Q) (h : ∀ a w, K a w → K' a w) (hh : wpOp P ops Q i K a w) : wpOpIn (Fence.wide.inRound l) n P ops Q i K' a w := by
  unfold wpOp at hh
  unfold wpOpIn
  split
  · rename_i ho; simp only [ho] at hh; exact h _ _ hh
  · rename_i o ho
    simp only [ho] at hh
    split
    · rename_i hw
      simp only [hw, if_true] at hh
      rcases hh with hh | ⟨_, hh⟩
      · exact opIn_round (hd i o ho) h hh
      · exact absurd hh hQ
    · rename_i hw
      simp only [hw] at hh
      exact ⟨fun _ _ => trivial, h _ _ hh⟩
theorem wpAnyIn_round {ops : Array Oper} {md : Region.Mode} {Q : Exit → Act → World → Prop} (hd : ∀ (j : Nat) o, ops[j]? = some o → ∀ c, o.op ≠ .defer c) (hQ : ¬ LetsOut Q) : ∀ (fuel : Nat) (listed : Array Bool) (a : Act) (w : World),
    wpAny P md ops Q fuel listed a w → wpAnyIn (Fence.wide.inRound l) n P md ops Q fuel listed a w
  | 0, _, _, _, h => h
  | fuel + 1, _, _, _, h => ⟨h.1, fun i hi => wpOpIn_round hd hQ (fun a' w' => wpAnyIn_round hd hQ fuel _ a' w') (h.2 i hi)⟩
def noDeferB (l : List Oper) : Bool := l.all fun o => match o.op with | .defer _ => false | _ => true
theorem noDeferB_spec {l : List Oper} (h : noDeferB l = true) : ∀ (j : Nat) o, l.toArray[j]? = some o → ∀ c, o.op ≠ .defer c := by
  intro j o ho c e
  have hm : o ∈ l := by simpa using Array.mem_of_getElem? ho
  have := List.all_eq_true.1 h o hm
  simp [e] at this
theorem wpIn_region_round {id : Nat} {a : Act} {w : World} {Q : Exit → Act → World → Prop} {l0 : List Oper} (hm : P.follows .mixedOrders = true) (hd : noDeferB l0 = true) (hQ : ¬ LetsOut Q)
    (h : wpAny P .any l0.toArray Q l0.toArray.size (Array.replicate l0.toArray.size false) a { w with drawn := w.drawn + 1 }) : (Code.region id l0.toArray true).wpIn (Fence.wide.inRound l) n P Q a w :=
  wpIn_region_any hm (wpAnyIn_round (noDeferB_spec hd) hQ _ _ _ _ h)

/-- All but the last few only read. -/
theorem wpIn_region_still_tail {id : Nat} {Q : Exit → Act → World → Prop} {a : Act} {w : World} {l0 : List Oper} (k : Nat) (hm : P.follows .mixedOrders = true) (hB : Region.lexTailB .any l0.toArray k = true) (hd : noDeferB l0 = true) (hQ : ¬ LetsOut Q)
    (h : wpStill P l0.toArray { w with drawn := w.drawn + 1 } (fun a' => wpList P l0.toArray Q (l0.drop k) a' { w with drawn := w.drawn + 1 }) (l0.take k) a) : (Code.region id l0.toArray true).wpIn (Fence.wide.inRound l) n P Q a w := by
  simp only [Region.lexTailB, Bool.and_eq_true, decide_eq_true_eq] at hB
  obtain ⟨⟨⟨⟨hsel, hn⟩, hs⟩, hc⟩, hlex⟩ := hB
  have hn' : k < l0.length := by simpa using hn
  have htl : (l0.take k).length = k := by simp; omega
  have hdl : (l0.drop k).length = l0.toArray.size - k := by simp
  have inv0 : HeadInv .any l0.toArray k (Array.replicate l0.toArray.size false) :=
    ⟨by simp, fun j oj _ hl => (by rw [getD_replicate_false] at hl; cases hl), fun t _ ht => getD_in (by simpa using ht) (getD_replicate_false _ _)⟩
  have H := wpAnyL_lex (md := .any) (g := l0.toArray.size - k) hsel hs hc hn (l0.take k) 0 _ a (fun j hj => by
    have hj' : j < k := by rw [htl] at hj; exact hj
    simp [hj']) (by simpa using htl) inv0 (by rw [htl]; exact hlex) h
  refine wpIn_region_round hm hd hQ ?_
  have := wpAny_of_head (Q' := Q) (g := l0.toArray.size - k) (fun listed a' hL => by
    have := wpAny_of_seq (md := .any) (Q' := Q) (l0.drop k) k listed a' { w with drawn := w.drawn + 1 } (fun j => by simp [List.getElem?_drop]) (by rw [hdl]; exact hL.1) hL.2
    rwa [hdl] at this) _ _ _ H
  rw [htl, show k + (l0.toArray.size - k) = l0.toArray.size by omega] at this
  exact this
/-- All only read. -/
theorem wpIn_region_quiet_lit {id : Nat} {Q : Exit → Act → World → Prop} {a : Act} {w : World} {l0 : List Oper} (hm : P.follows .mixedOrders = true) (hB : Region.lexB .any l0.toArray = true) (hd : noDeferB l0 = true) (hQ : ¬ LetsOut Q)
    (h : wpQuiet P l0.toArray (fun w' => ∃ n, w' = w.drewN n) (fun a' => ∀ w', (∃ n, w' = w.drewN n) → Q .normal a' w') l0 a) : (Code.region id l0.toArray true).wpIn (Fence.wide.inRound l) n P Q a w := by
  simp only [Region.lexB, Bool.and_eq_true] at hB
  refine wpIn_region_round hm hd hQ (wpAny_of_quiet (C := fun w' => ∃ n, w' = w.drewN n) (Q := fun a' => ∀ w', (∃ n, w' = w.drewN n) → Q .normal a' w') (fun _ w' hw' h => h w' hw') _ _ _ _ ⟨1, rfl⟩ ?_)
  have := wpAnyQ_lex (C := fun w' => ∃ n, w' = w.drewN n) (md := .any) hB.1 l0 0 (Array.replicate l0.toArray.size false) a (by simp) (by simpa using hB.2) h
  simpa using this
end Go.Proofs.YtmoakgkoahjijaaGreatDoor

/- packet.Put, of numbers that may be. -/
set_option linter.unusedVariables false
set_option linter.unusedSimpArgs false
namespace Go.Proofs.YtmoakgkoahjijaaGreatDoor
open Go.RowKit Go.Shelf PkMath
attribute [local go_sem] Oper.semAt_some

theorem makeFull_u8 (m : Nat) (h : m ≤ 140737488355328) : ∀ W : World, (Instr.makeSlice 24 (.int .i64 (m : Int)) (.int .i64 (m : Int))).run Tryz.prog W = .ok (.slice (some ⟨W.heap.size, 0, none⟩) m m) (W.alloc (.cells (madeCells #[.int .u8 0] m) 5)) := by
  intro W
  obtain ⟨i, hi, hzz⟩ := Option.map_eq_some_iff.1 infoByte
  simp only [Prod.mk.injEq] at hzz
  obtain ⟨hz, hs, hb⟩ := hzz
  have := run_make (P := Tryz.prog) W 24 5 i (.int .u8 0) Tryz.underlying24 hi hz .i64 .i64 m m (by omega) (by omega) (by rw [hb]; omega) (by omega)
  rw [hs] at this
  simpa [Value.cells] using this

/-- What Put's loop holds: the bytes, and how many bits were put. -/
def PutAt (B g M : Nat) (bs : List Bool) (W : World) : Prop :=
  (∃ cs : Array Value, cs.size = M ∧ cs.toList = nums .u8 (pack bs M) ∧ W.heap[g]? = some (.cells cs 5 (0, 0))) ∧ Boxed W (g + 1) 24 (.slice (some ⟨g, 0, none⟩) M M) ∧ Boxed W (g + 1 + 1) 3 (.int .i64 (bs.length : Nat))
theorem PutAt.own (B g M : Nat) : Own (PutAt B g M) := by
  rintro bs X Y row ⟨⟨cs, h1, h2, h3⟩, h4, h5⟩ hg hr
  have key : ∀ (k : Nat) (cs : Array Value) (t : TypeId) (fr : Nat × Nat), X.heap[k]? = some (.cells cs t fr) → Y.heap[k]? = some (.cells cs t fr) := fun k cs t fr hk => by
    refine (hg.block k (Array.getElem?_eq_some_iff.1 hk).1 (fun e => ?_)).trans hk
    obtain ⟨o, ho, hc⟩ := hr k e.symm
    rw [hk] at ho; cases ho; cases hc
  exact ⟨⟨cs, h1, h2, key _ _ _ _ h3⟩, key _ _ _ _ h4, key _ _ _ _ h5⟩

theorem pack_false (l : List Bool) (m : Nat) : pack (l ++ [false]) m = pack l m := by
  unfold pack
  apply List.map_congr_left
  intro j _
  rw [packByte_false]
theorem pack_true (l : List Bool) (m : Nat) (h : l.length / 8 < m) : pack (l ++ [true]) m = (pack l m).set (l.length / 8) ((packByte l (l.length / 8) ||| 2 ^ (7 - l.length % 8) : Nat) : Int) := by
  apply List.ext_getElem (by rw [List.length_set, pack_length, pack_length])
  intro j h1 h2
  rw [pack_length] at h1
  have e1 := pack_getD (l ++ [true]) m j h1
  rw [List.getD_eq_getElem?_getD, List.getElem?_eq_getElem (by rw [pack_length]; exact h1)] at e1
  simp only [Option.getD_some] at e1
  rw [e1, List.getElem_set]
  split
  · rename_i e; subst e; rw [packByte_or]
  · rename_i e
    rw [packByte_other _ _ _ (Ne.symm e)]
    have e2 := pack_getD l m j h1
    rw [List.getD_eq_getElem?_getD, List.getElem?_eq_getElem (by rw [pack_length]; exact h1)] at e2
    simp only [Option.getD_some] at e2
    rw [e2]
theorem or_u8 (a b : Nat) (ha : a < 256) (hb : b < 256) : bits .or .u8 (a : Int) (b : Int) = ((a ||| b : Nat) : Int) := by
  show IntKind.u8.wrap ((BitVec.ofInt 8 (a : Int) ||| BitVec.ofInt 8 (b : Int)).toNat : Int) = _
  rw [BitVec.ofInt_natCast, BitVec.ofInt_natCast, BitVec.toNat_or, BitVec.toNat_ofNat, BitVec.toNat_ofNat, Nat.mod_eq_of_lt ha, Nat.mod_eq_of_lt hb]
  have h := Nat.or_lt_two_pow (n := 8) ha hb
  rw [IntKind.wrap_u8]
  omega
theorem shr_128 (r : Nat) (hr : r < 8) : (128 : Int) / 2 ^ r = ((2 ^ (7 - r) : Nat) : Int) := by
  obtain rfl | rfl | rfl | rfl | rfl | rfl | rfl | rfl : r = 0 ∨ r = 1 ∨ r = 2 ∨ r = 3 ∨ r = 4 ∨ r = 5 ∨ r = 6 ∨ r = 7 := by omega
  all_goals decide
theorem or_128 (q r : Nat) (hq : q < 256) (hr : r < 8) : bits .or .u8 (q : Int) ((128 : Int) / 2 ^ r) = ((q ||| 2 ^ (7 - r) : Nat) : Int) := by
  rw [shr_128 r hr, or_u8 _ _ hq (Nat.lt_of_lt_of_le (Nat.pow_lt_pow_right (by decide) (by omega : 7 - r < 8)) (by decide))]

theorem put_false {B g M : Nat} {pre : List Bool} {w W : World} {a : Nat} (hg : B ≤ g) (h : PutAt B g M pre W) (hB : Below B w W) (ha : a = pre.length) (n : Nat) :
    KeepsOthers W (W.setCell ⟨g + 1 + 1, 0, none⟩ (.int .i64 ((a : Int) + 1))) ∧ KeepC (fun b => b = g ∨ b = g + 1 + 1) W (W.setCell ⟨g + 1 + 1, 0, none⟩ (.int .i64 ((a : Int) + 1))) ∧ PutAt B g M (pre ++ [false]) (W.setCell ⟨g + 1 + 1, 0, none⟩ (.int .i64 ((a : Int) + 1))) ∧ Below B w (W.setCell ⟨g + 1 + 1, 0, none⟩ (.int .i64 ((a : Int) + 1))) := by
  obtain ⟨⟨cs, h1, h2, h3⟩, h4, h5⟩ := h
  refine ⟨KeepsOthers.setCell _ _ _, KeepC.ofFoot ((Foot.refl _ W).setCell (p := ⟨_, _, _⟩) (.inl (.inr rfl)) _), ⟨⟨cs, h1, by rw [pack_false]; exact h2, ?_⟩, ?_, ?_⟩, hB.setCell (p := ⟨_, _, _⟩) (by show B ≤ g + 1 + 1; omega) _⟩
  · rw [Below.heap_setCell _ _ _ _ (by show g ≠ g + 1 + 1; omega)]; exact h3
  · show _ = _
    rw [Below.heap_setCell _ _ _ _ (by show g + 1 ≠ g + 1 + 1; omega)]; exact h4
  · have := h5.set (.int .i64 ((a : Int) + 1))
    rw [List.length_append, List.length_singleton, ← ha]
    exact this
theorem put_true {B g M : Nat} {pre : List Bool} {w W : World} {a j r q : Nat} (hg : B ≤ g) (h : PutAt B g M pre W) (hB : Below B w W) (ha : a = pre.length) (hj : j = a / 8) (hr : r = a % 8) (hq : q = packByte pre j) (hjM : j < M) :
    KeepsOthers W ((W.setCell ⟨g, j, none⟩ (.int .u8 (bits .or .u8 (q : Int) ((128 : Int) / 2 ^ r)))).setCell ⟨g + 1 + 1, 0, none⟩ (.int .i64 ((a : Int) + 1))).drew ∧ KeepC (fun b => b = g ∨ b = g + 1 + 1) W ((W.setCell ⟨g, j, none⟩ (.int .u8 (bits .or .u8 (q : Int) ((128 : Int) / 2 ^ r)))).setCell ⟨g + 1 + 1, 0, none⟩ (.int .i64 ((a : Int) + 1))).drew ∧ PutAt B g M (pre ++ [true]) ((W.setCell ⟨g, j, none⟩ (.int .u8 (bits .or .u8 (q : Int) ((128 : Int) / 2 ^ r)))).setCell ⟨g + 1 + 1, 0, none⟩ (.int .i64 ((a : Int) + 1))).drew ∧ Below B w ((W.setCell ⟨g, j, none⟩ (.int .u8 (bits .or .u8 (q : Int) ((128 : Int) / 2 ^ r)))).setCell ⟨g + 1 + 1, 0, none⟩ (.int .i64 ((a : Int) + 1))).drew := by
  obtain ⟨⟨cs, h1, h2, h3⟩, h4, h5⟩ := h
  have hq8 : q < 256 := by rw [hq]; exact packByte_lt _ _
  rw [or_128 q r hq8 (by omega)]
  refine ⟨((KeepsOthers.setCell _ _ _).trans (KeepsOthers.setCell _ _ _)).trans (KeepsOthers.drew _), KeepC.ofFoot (((Foot.refl _ W).setCell (p := ⟨_, _, _⟩) (.inl (.inl rfl)) _).setCell (p := ⟨_, _, _⟩) (.inl (.inr rfl)) _).drew, ⟨⟨cs.setIfInBounds j (.int .u8 ((q ||| 2 ^ (7 - r) : Nat) : Int)), by simpa using h1, ?_, ?_⟩, ?_, ?_⟩, ((hB.setCell (p := ⟨_, _, _⟩) hg _).setCell (p := ⟨_, _, _⟩) (by show B ≤ g + 1 + 1; omega) _).drew⟩
  · rw [pack_true _ _ (by omega), Array.toList_setIfInBounds, h2, nums, nums, List.map_set, ← ha, ← hj, ← hr, ← hq]
  · show ((W.setCell _ _).setCell _ _).heap[g]? = _
    rw [Below.heap_setCell _ _ _ _ (by show g ≠ g + 1 + 1; omega)]
    exact setCell_heap h3 j _
  · show ((W.setCell _ _).setCell _ _).heap[g + 1]? = _
    rw [Below.heap_setCell _ _ _ _ (by show g + 1 ≠ g + 1 + 1; omega), Below.heap_setCell _ _ _ _ (by show g + 1 ≠ g; omega)]
    exact h4
  · have h5' : Boxed (W.setCell ⟨g, j, none⟩ (.int .u8 ((q ||| 2 ^ (7 - r) : Nat) : Int))) (g + 1 + 1) 3 (.int .i64 (pre.length : Nat)) := by
      show _ = _
      rw [Below.heap_setCell _ _ _ _ (by show g + 1 + 1 ≠ g; omega)]; exact h5
    have := h5'.set (.int .i64 ((a : Int) + 1))
    rw [List.length_append, List.length_singleton, ← ha]
    exact this

theorem all_stops (F : Nat → Prop) (Bn : Nat) (A : Option Addr) (n c : Nat) (xs : List Num) (w : World) (hF : 0 < n → ∀ ad, A = some ad → ¬ F ad.block) (hFB : ¬ F Bn) (hFW : ∀ k, F k → k < w.heap.size) (hB : Bn < w.heap.size) (hwf : ∀ j, j < n → (xs.getD j zeroNum).wf ∧ (xs.getD j zeroNum).ok)
    (hBn : w.cell? ⟨Bn, 0, none⟩ = some (.slice A n c)) (hR : ReadsNums w A n xs) :
    SeqStopsK Fence.wide 2 Tryz.prog 144 #[.pointer (some ⟨Bn, 0, none⟩)] (fun x : Bool => #[.bool x]) (KeepC F) (fun ys => ys = allBits xs) (fun pre => pre <+: allBits xs) (allBits xs).length w :=
  fun l J Jx W hW hJ _ hY h0 => all1_in F l Bn A n c xs hF hFB hwf J Jx W (fun k hk => Nat.lt_of_lt_of_le (hFW k hk) hW.size) hJ hY ((hW.cell (p := ⟨Bn, 0, none⟩) hB).trans hBn) (hR.below hW) h0

theorem alloc4 (w : World) (a b c d : Obj) : ((((w.alloc a).alloc b).alloc c).alloc d).heap[w.heap.size]? = some a ∧ ((((w.alloc a).alloc b).alloc c).alloc d).heap[w.heap.size + 1]? = some b ∧ ((((w.alloc a).alloc b).alloc c).alloc d).heap[w.heap.size + 1 + 1]? = some c ∧ ((((w.alloc a).alloc b).alloc c).alloc d).heap[w.heap.size + 1 + 1 + 1]? = some d ∧ ((((w.alloc a).alloc b).alloc c).alloc d).heap.size = w.heap.size + 4 := by
  have s1 : (w.alloc a).heap.size = w.heap.size + 1 := by simp
  have s2 : ((w.alloc a).alloc b).heap.size = w.heap.size + 2 := by simp
  have s3 : (((w.alloc a).alloc b).alloc c).heap.size = w.heap.size + 3 := by simp
  have s4 : ((((w.alloc a).alloc b).alloc c).alloc d).heap.size = w.heap.size + 4 := by simp
  refine ⟨?_, ?_, ?_, ?_, s4⟩
  · rw [Below.heap_alloc _ _ _ (by omega), Below.heap_alloc _ _ _ (by omega), Below.heap_alloc _ _ _ (by omega)]; exact heap_alloc_new _ _
  · rw [Below.heap_alloc _ _ _ (by omega), Below.heap_alloc _ _ _ (by omega)]
    have := heap_alloc_new (w.alloc a) b
    rwa [s1] at this
  · rw [Below.heap_alloc _ _ _ (by omega)]
    have := heap_alloc_new ((w.alloc a).alloc b) c
    rwa [s2] at this
  · have := heap_alloc_new (((w.alloc a).alloc b).alloc c) d
    rwa [s3] at this
theorem packByte_nil (j : Nat) : packByte [] j = 0 := numOf_zeros _ (fun q => by
  by_cases h : q < 8
  · rw [byteAt_getD _ _ _ h]; rfl
  · exact getD_past _ _ (by rw [byteAt_length]; omega))
theorem made_pack (M : Nat) : (madeCells #[.int .u8 0] M).toList = nums .u8 (pack [] M) := by
  unfold nums pack
  rw [madeCells, List.map_map, Array.toList_map, Array.toList_range]
  apply List.map_congr_left
  intro i _
  simp [packByte_nil, Nat.mod_one]

set_option maxRecDepth 100000 in
set_option maxHeartbeats 4000000 in
theorem Put_ok (A : Option Addr) (n c : Nat) (xs : List Num) (w : World) (hR : ReadsNums w A n xs) (hn : n ≤ 1048576) (hwf : ∀ j, j < n → (xs.getD j zeroNum).wf) (hok : allOk xs) (hbig : (allBits xs).length ≤ 524288) :
    Calls Tryz.prog 7 #[.slice A n c] w fun e w' => ∃ v, e = .returned (.tuple #[v, .int .i64 0]) ∧ w'.ownsRow w.heap.size 5 1 v (((allBits xs).length + 7) / 8) (nums .u8 (pack (allBits xs) (((allBits xs).length + 7) / 8))) ∧ Below w.heap.size w w' := by
  have HR : Aside (ReadsNums w A n xs) := hR
  have HL : Aside (xs.length = n) := hR.1
  have HW : Aside (∀ j, j < n → (xs.getD j zeroNum).wf) := hwf
  have HO : Aside (allOk xs) := hok
  have HBIG : Aside ((allBits xs).length ≤ 524288) := hbig
  clear hR hwf hok hbig
  refine (callsIn_wide (n := 3)).1 ?_
  refine callsIn_of_wp_marks Tryz.func7 rfl trivial ?_ rfl
  simp only [Tryz.ntmps7, List.size_toArray, List.length_cons, List.length_nil, Nat.reduceAdd, Nat.reduceSub, Array.replicate_succ, Array.replicate_zero, List.push_toArray, List.append_toArray, List.nil_append, List.cons_append]
  gi_wp2
  gi_loopw [4, 12] (fun s i' wr => ∃ (k m : Nat), k ≤ n ∧ i' = .int .i64 k ∧ s = .int .i64 m ∧ Aside (m = (allBits (xs.take k)).length) ∧ Below w.heap.size w wr) (fun _ i' _ => n - (intOf i').toNat)
  case atStart => exact ⟨0, 0, Nat.zero_le _, rfl, rfl, rfl, Below.refl _ _⟩
  case round =>
    obtain ⟨k, m, hk, rfl, rfl, hm, hB⟩ := hrel
    have hsz := hB.size
    have hmb : m ≤ 128 * k := by rw [hm.out]; exact len_bound xs HO.out k (by rw [HL.out]; exact hk)
    by_cases hlt : k < n
    · obtain ⟨b, off, hA, hbs, hcells⟩ := (HR.out.below hB).2.2 (by omega)
      subst hA
      obtain ⟨q0, q1, q2⟩ := hcells k (by omega)
      rw [← Nat.add_assoc] at q1 q2
      obtain ⟨x, hx⟩ : ∃ x, x = xs.getD k zeroNum := ⟨_, rfl⟩
      rw [← hx] at q0 q1 q2
      have hwf := HW.out k (by omega)
      rw [← hx] at hwf
      have hk0 : (0 : Int) ≤ (k : Int) := by omega
      have hk1 : (k : Int) < (n : Int) := by omega
      clear hcells
      have hok := HO.out k (by rw [HL.out]; exact hlt)
      rw [← hx] at hok
      have HC : Aside (∀ V, Calls Tryz.prog 40 #[x.v] V fun e w' => e = .returned (.bool true) ∧ Below V.heap.size V w') := fun V => check_good x hwf hok V
      have hW1 := hok.1
      have hW2 := hok.2.1
      obtain ⟨d, hd⟩ : ∃ d : Nat, x.W = (d : Int) := ⟨x.W.toNat, by omega⟩
      have HS : Aside ((allBits (xs.take (k + 1))).length = (allBits (xs.take k)).length + d) := by
        show _ = _
        rw [allBits_len_succ _ _ (by rw [HL.out]; exact hlt), ← hx, hd]
        rfl
      clear hx hwf hok
      obtain ⟨W, hi', lo⟩ := x
      unfold Num.v at HC
      simp only at q0 q1 q2 HC hW1 hW2 hd
      subst hd
      gi_wp2_with fail
      refine ⟨trivial, ?_⟩
      refine CallsIn.mono (callsIn_wide.2 (HC.out _)) ?_
      rintro e w5 ⟨rfl, hb5⟩
      have h6 := (hb5.block wr.heap.size (by simp)).trans (heap_alloc_new wr (.cells #[.int .i64 (d : Int), .int .u64 hi', .int .u64 lo] 79))
      have p0 := cellOf h6 0
      simp only [List.getElem?_toArray, List.getElem?_cons_zero] at p0
      clear h6
      have hadd : (m : Int) + (d : Int) ≤ 9223372036854775807 := by omega
      have hadd0 : (0 : Int) ≤ (m : Int) + (d : Int) := by omega
      gi_wp2
      go_roundw
      case rel => exact ⟨k + 1, m + d, by omega, by go_num, by go_num, by show _ = _; rw [HS.out, ← hm.out], (hB.alloc hsz _).trans (hb5.mono (by simp; omega))⟩
      case measure => simp [intOf]; omega
    · obtain rfl : k = n := by omega
      have hm' : m = (allBits xs).length := by
        rw [hm.out, show xs.take k = xs from List.take_of_length_le (by rw [HL.out]; exact Nat.le_refl _)]
      have hmm : m ≤ 524288 := by rw [hm']; exact HBIG.out
      have hd : decide (524288 < (m : Int)) = false := decide_eq_false (by omega)
      obtain ⟨M, hM⟩ : ∃ M, M = (m + 7) / 8 := ⟨_, rfl⟩
      have s1 : ((m : Int) + 7) / 8 = (M : Int) := by omega
      have hmk := makeFull_u8 M (by omega)
      have HM : Aside (M = (m + 7) / 8 ∧ m = (allBits xs).length) := ⟨hM, hm'⟩
      clear hM hm'
      gi_wp2_with fail
      refine ⟨trivial, ?_⟩
      refine CallsIn.mono (callsIn_wide.2 (all_any _ _ _ _)) ?_
      rintro e w5 ⟨rfl, rfl⟩
      generalize hg : wr.heap.size = g at *
      have HG : Aside (w.heap.size ≤ g) := hsz
      have HRB : Aside (0 < k → ∀ ad, A = some ad → ad.block < w.heap.size) := by
        intro hk0 ad had
        obtain ⟨b, off, h1, h2, _⟩ := HR.out.2.2 hk0
        rw [had] at h1
        injection h1 with h1
        rw [h1]
        exact h2
      have hA4 := alloc4 wr (.cells (madeCells #[.int .u8 0] M) 5) (.cells #[.slice (some ⟨g, 0, none⟩) M M] 24) (.cells #[.int .i64 0] 3) (.cells #[.slice A k c] 22)
      rw [hg] at hA4
      have hVB : Below w.heap.size w ((((wr.alloc (.cells (madeCells #[.int .u8 0] M) 5)).alloc (.cells #[.slice (some ⟨g, 0, none⟩) M M] 24)).alloc (.cells #[.int .i64 0] 3)).alloc (.cells #[.slice A k c] 22)) :=
        (((hB.alloc (by omega) _).alloc (by simp; omega) _).alloc (by simp; omega) _).alloc (by simp; omega) _
      have hVc : ((((wr.alloc (.cells (madeCells #[.int .u8 0] M) 5)).alloc (.cells #[.slice (some ⟨g, 0, none⟩) M M] 24)).alloc (.cells #[.int .i64 0] 3)).alloc (.cells #[.slice A k c] 22)).cell? ⟨g + 1 + 1 + 1, 0, none⟩ = some (.slice A k c) := cellOf hA4.2.2.2.1 0
      have hVs := hA4.2.2.2.2
      have hV0 : PutAt w.heap.size g M [] ((((wr.alloc (.cells (madeCells #[.int .u8 0] M) 5)).alloc (.cells #[.slice (some ⟨g, 0, none⟩) M M] 24)).alloc (.cells #[.int .i64 0] 3)).alloc (.cells #[.slice A k c] 22)) :=
        ⟨⟨_, by simp [size_madeCells], made_pack M, hA4.1⟩, hA4.2.1, hA4.2.2.1⟩
      clear hA4
      gi_wp2_with fail
      generalize ((((wr.alloc (.cells (madeCells #[.int .u8 0] M) 5)).alloc (.cells #[.slice (some ⟨g, 0, none⟩) M M] 24)).alloc (.cells #[.int .i64 0] 3)).alloc (.cells #[.slice A k c] 22)) = V at *
      refine range_own rfl (by decide) (gf := 144) (lb := #[.pointer (some ⟨g + 1 + 1 + 1, 0, none⟩)]) rfl trivial (enters_of Tryz.func144 (by kernel_rfl) rfl)
        (all_stops (fun b => b = g ∨ b = g + 1 + 1) (g + 1 + 1 + 1) A k c xs V ?hF (by omega) (by intro b hb; omega) (by omega) (fun j hj => ⟨HW.out j hj, HO.out j (by rw [HL.out]; exact hj)⟩) hVc (HR.out.below hVB)) KeepC.trans (keepC_b _ _) (Below.refl _ _) (fun _ => rfl)
        (fun pre W => PutAt w.heap.size g M pre W ∧ Below w.heap.size w W) (fun _ _ _ => False)
        (OwnFrom.and ((PutAt.own w.heap.size g M).from _) (ownFrom_below (Nat.le_refl _) (by omega))) (fun _ _ _ _ _ hs _ _ => hs) ⟨hV0, hVB⟩ ?round ?done ?stop
      case hF =>
        intro hk0 ad had hf
        have h1 := HRB.out hk0 ad had
        have h2 := HG.out
        rcases hf with hf | hf <;> omega
      case round =>
        intro x
        apply Exists.intro
        refine ⟨?_, ?_⟩
        · intro l W K hK
          gi_wp2
          exact hK
        · rintro l pre W ⟨⟨⟨cs, hc1, hc2, hc3⟩, hb7, hb8⟩, hBW⟩ hlen
          obtain ⟨a, ha⟩ : ∃ a, a = pre.length := ⟨_, rfl⟩
          have hMa : a < 8 * M := by have := HM.out; omega
          have c7 := hb7.cell
          have c8 := hb8.cell
          have f8 := hb8.frozen
          rw [← ha] at c8
          obtain ⟨j, hj⟩ : ∃ j, j = a / 8 := ⟨_, rfl⟩
          obtain ⟨r, hr⟩ : ∃ r, r = a % 8 := ⟨_, rfl⟩
          have hjM : j < M := by omega
          have hr8 : r < 8 := by omega
          have ha6 : a ≤ 524288 := by have := HM.out; omega
          obtain ⟨q, hq⟩ : ∃ q : Nat, q = packByte pre j := ⟨_, rfl⟩
          have hq8 : q < 256 := by rw [hq]; exact packByte_lt _ _
          have cg : W.cell? ⟨g, j, none⟩ = some (.int .u8 (q : Int)) := by
            rw [cellOf hc3 j, ← Array.getElem?_toList, hc2, nums, List.getElem?_map, hq]
            have := pack_getD pre M j hjM
            rw [List.getD_eq_getElem?_getD, List.getElem?_eq_getElem (by rw [pack_length]; exact hjM)] at this
            simp only [Option.getD_some] at this
            rw [List.getElem?_eq_getElem (by rw [pack_length]; exact hjM), this]
            rfl
          have fg := frozenOf hc3 j
          have HI : Aside (PutAt w.heap.size g M pre W ∧ Below w.heap.size w W ∧ a = pre.length ∧ j = a / 8 ∧ r = a % 8 ∧ q = packByte pre j) := ⟨⟨⟨cs, hc1, hc2, hc3⟩, hb7, hb8⟩, hBW, ha, hj, hr, hq⟩
          have s1 : (a : Int) / 8 = (j : Int) := by omega
          have s2 : (a : Int).tdiv 8 = (j : Int) := by rw [Int.tdiv_eq_ediv_of_nonneg (by omega)]; exact s1
          have s3 : (a : Int) % 8 = (r : Int) := by omega
          have s4 : (a : Int).tmod 8 = (r : Int) := by rw [Int.tmod_eq_emod_of_nonneg (by omega)]; exact s3
          have s5 : (0 : Int) ≤ (j : Int) := by omega
          have s6 : (j : Int) < (M : Int) := by omega
          have s7 : IntKind.i64.wrap (j : Int) = (j : Int) := by rw [IntKind.wrap_i64]; omega
          have s8 : IntKind.i64.wrap (r : Int) = (r : Int) := by rw [IntKind.wrap_i64]; omega
          have s9 : (0 : Int) ≤ (r : Int) := by omega
          clear ha hj hr hq hc1 hc2 hc3 hb7 hb8 hBW
          cases x with
          | false =>
            gi_wp2
            have h := put_false HG.out HI.out.1 HI.out.2.1 HI.out.2.2.1 0
            exact ⟨h.1, h.2.1, h.2.2.1, h.2.2.2⟩
          | true =>
            gi_wp2
            refine wpIn_region_still_tail 10 (by kernel_rfl) (by kernel_rfl) (by kernel_rfl) (fun ⟨_, _, h⟩ => h) ?_
            simp only [List.take_succ_cons, List.take_zero, List.drop_succ_cons, List.drop_zero]
            repeat still_step
            try refine wpStill_nil ?_
            change wpList _ _ _ _ _ W.drew
            go_wp2
            gi_wp2
            have h := put_true HG.out HI.out.1 HI.out.2.1 HI.out.2.2.1 HI.out.2.2.2.1 HI.out.2.2.2.2.1 HI.out.2.2.2.2.2 hjM
            exact ⟨h.1, h.2.1, h.2.2.1, h.2.2.2⟩
      case done =>
        rintro D ys W hD rfl ⟨⟨⟨cs, hc1, hc2, hc3⟩, hb7, hb8⟩, hBW⟩ hK
        have c7 := hb7.cell
        gi_wp2
        refine ⟨by simp, .inl ⟨_, _, rfl, run_takeDeferred hK, ?_⟩⟩
        refine ⟨_, results_tmp2 rfl _ _ _, ?_⟩
        have hrow : W.ownsRow w.heap.size 5 1 (.slice (some ⟨g, 0, none⟩) M M) M (nums .u8 (pack (allBits xs) M)) :=
          ⟨by simp [nums, pack_length], .inr ⟨g, M, cs, rfl, HG.out, hc3, Nat.le_refl _, by unfold maxLen; have := HM.out; omega, by rw [hc1]; omega, by rw [Nat.mul_one, hc2]; exact List.take_of_length_le (by simp [nums, pack_length])⟩⟩
        refine ⟨.slice (some ⟨g, 0, none⟩) M M, rfl, ?_, hBW.trans (belowK_b (w := w) (Nat.le_refl _) W D _ _ (by have := HG.out; omega) hK rfl rfl)⟩
        have e : ((allBits xs).length + 7) / 8 = M := by have := HM.out; omega
        rw [e]
        exact ownsRow_putObj hrow _ hK rfl
      case stop =>
        rintro D c pre W hD hpre h _
        exact h.elim
end Go.Proofs.YtmoakgkoahjijaaGreatDoor

/- The document's Put over numbers alone: the bits one behind the other, packed; or refused. -/
set_option linter.unusedVariables false
set_option linter.unusedSimpArgs false
namespace Go.Proofs.YtmoakgkoahjijaaGreatDoor.PPut
open Go.RowKit Go.Proofs.YtmoakgkoahjijaaGreatDoorW.PrintWords Go.Proofs.YtmoakgkoahjijaaGreatDoorW.PrintLast Go.Proofs.YtmoakgkoahjijaaGreatDoorW.PrintMore PkMath

def toS (x : Num) : S79 := ⟨x.W, x.Hi, x.Lo⟩
theorem rd_toS (xs : List Num) (i : Nat) : rd_T79 (xs.map toS) (i : Int) = toS (xs.getD i zeroNum) := by
  simp only [rd_T79, Int.toNat_natCast, List.getD_eq_getElem?_getD, List.getElem?_map]
  cases xs[i]? <;> rfl
theorem check_ref (x : Num) (hw : x.wf) (k : Nat) (hk : 300 ≤ k) : pointsmanref01_Check.f k x.W x.Hi x.Lo = some x.okB := by
  unfold pointsmanref01_Check.f
  by_cases h : 1 ≤ x.W ∧ x.W ≤ 128
  · obtain ⟨n, hn⟩ := Int.eq_ofNat_of_zero_le (show 0 ≤ x.W by omega)
    have h3 := ref_of x.Hi x.Lo hw.2.1 hw.2.2 n (by omega) (by omega) k (by omega)
    rw [hn, h3]
    have e : x.W.toNat = n := by omega
    simp only [Option.bind_some, if_true, beq_self_eq_true, Bool.true_and]
    congr 1
    unfold Num.okB
    rw [e]
    by_cases h1 : cutHi n x.Hi = x.Hi <;> by_cases h2 : cutLo n x.Lo = x.Lo <;> simp [h1, h2, h]
  · have h3 := ref_of_bad x.Hi x.Lo x.W (by omega) k (by omega)
    rw [h3]
    simp only [Option.bind_some]
    rw [if_neg (by decide)]
    congr 1
    unfold Num.okB
    rw [decide_eq_false (by omega)]
/-- A number's bits, the lowest first and the highest first. -/
theorem bitAt_test (x : Num) (hw : x.wf) (i : Nat) (hi : i < 128) : bitAt x.Hi x.Lo i = x.val.testBit i := by
  obtain ⟨h, hh⟩ := Int.eq_ofNat_of_zero_le hw.2.1.1
  obtain ⟨l, hl⟩ := Int.eq_ofNat_of_zero_le hw.2.2.1
  have hlb : l < 2 ^ 64 := by have := hw.2.2.2; rw [hl] at this; have e : (2 : Nat) ^ 64 = 18446744073709551616 := by decide
                              omega
  unfold bitAt Num.val
  rw [hh, hl, Int.toNat_natCast, Int.toNat_natCast]
  have e64 : h * 18446744073709551616 + l = 2 ^ 64 * h + l := by rw [Nat.mul_comm]
  rw [e64, Nat.testBit_two_pow_mul_add _ hlb]
  have key : ∀ (v j : Nat), ((v : Int) / 2 ^ j % 2 == 1) = v.testBit j := by
    intro v j
    have e1 : ((v : Int) / 2 ^ j % 2) = ((v / 2 ^ j % 2 : Nat) : Int) := by push_cast; rfl
    rw [e1, Nat.testBit_eq_decide_div_mod_eq]
    by_cases h : v / 2 ^ j % 2 = 1
    · rw [h]; rfl
    · have h0 : v / 2 ^ j % 2 = 0 := by omega
      rw [h0]; rfl
  by_cases h64 : i < 64
  · rw [if_pos h64, if_pos h64, key]
  · rw [if_neg h64, if_neg h64, key]
theorem shl8 (r : Nat) (hr : r < 8) : shl .u8 1 ((7 - r : Nat) : Int) = ((2 ^ (7 - r) : Nat) : Int) := by
  have : r = 0 ∨ r = 1 ∨ r = 2 ∨ r = 3 ∨ r = 4 ∨ r = 5 ∨ r = 6 ∨ r = 7 := by omega
  rcases this with rfl | rfl | rfl | rfl | rfl | rfl | rfl | rfl <;> decide
theorem or8 (q r : Nat) (hq : q < 256) (hr : r < 8) : Go.bits .or .u8 (q : Int) (shl .u8 1 ((7 - r : Nat) : Int)) = ((q ||| 2 ^ (7 - r) : Nat) : Int) := by
  rw [shl8 r hr]
  exact or_u8 q (2 ^ (7 - r)) hq (Nat.lt_of_le_of_lt (Nat.pow_le_pow_right (by decide) (show 7 - r ≤ 7 by omega)) (by decide))
end Go.Proofs.YtmoakgkoahjijaaGreatDoor.PPut

/- The document's Put over numbers alone: the bits one behind the other, packed; or refused. -/
set_option linter.unusedVariables false
set_option linter.unusedSimpArgs false
namespace Go.Proofs.YtmoakgkoahjijaaGreatDoor.PPut
open Go.RowKit Go.Proofs.YtmoakgkoahjijaaGreatDoorW.PrintWords Go.Proofs.YtmoakgkoahjijaaGreatDoorW.PrintLast Go.Proofs.YtmoakgkoahjijaaGreatDoorW.PrintMore PkMath

theorem w_add (a : Nat) (h : a ≤ 8000000) : wrap64 ((a : Int) + 1) = ((a + 1 : Nat) : Int) := (wrap_of_small _ (by omega) (by omega)).trans (by omega)
theorem w_sub (j : Nat) (h : j ≤ 128) : wrap64 ((j : Int) - 1) = (j : Int) - 1 := wrap_of_small _ (by omega) (by omega)
theorem w_id (a : Nat) (h : a ≤ 8000000) : wrap64 (a : Int) = (a : Int) := wrap_of_small _ (by omega) (by omega)
theorem w_7 (r : Nat) (h : r < 8) : wrap64 (7 - (r : Int)) = ((7 - r : Nat) : Int) := (wrap_of_small _ (by omega) (by omega)).trans (by omega)
set_option maxHeartbeats 1000000 in
/-- The bits of one number go behind. -/
theorem put_l2 (xs : List S79) (M i : Nat) (x : Num) (hw : x.wf) (n : Nat) (hn : n ≤ 128) (r : List Int × Int) (hM : M ≤ 1000000) : ∀ (j : Nat), j ≤ n → ∀ (pre : List Bool) (k : Nat), pre.length + j ≤ 8 * M →
    pointsmanref02_Put.l1 k xs (pack (pre ++ (bitsOfNum n x.val).drop (n - j)) M) ((pre.length + j : Nat) : Int) (wrap64 ((i : Int) + 1)) = some r →
    pointsmanref02_Put.l2 (k + j + 1) xs (pack pre M) (pre.length : Int) (i : Int) (bitsOf x.Hi x.Lo n) ((j : Int) - 1) = some r := by
  intro j
  induction j with
  | zero =>
    intro _ pre k hp h
    rw [pointsmanref02_Put.l2, if_neg (by omega)]
    rw [List.drop_eq_nil_of_le (by rw [bitsOfNum_length]; omega)] at h
    simpa using h
  | succ j ih =>
    intro hj pre k hp h
    have hbl : (bitsOfNum n x.val).length = n := bitsOfNum_length _ _
    have hlt : n - (j + 1) < (bitsOfNum n x.val).length := by omega
    have hdrop : (bitsOfNum n x.val).drop (n - (j + 1)) = (bitsOfNum n x.val).getD (n - (j + 1)) false :: (bitsOfNum n x.val).drop (n - j) := by
      rw [List.drop_eq_getElem_cons hlt, show n - (j + 1) + 1 = n - j by omega]
      simp [List.getD_eq_getElem?_getD, List.getElem?_eq_getElem hlt]
    have hbit : (bitsOfNum n x.val).getD (n - (j + 1)) false = bitAt x.Hi x.Lo j := by
      rw [bitsOfNum_getD _ _ _ (by omega), show n - 1 - (n - (j + 1)) = j by omega, bitAt_test x hw j (by omega)]
    rw [hdrop, hbit] at h
    have hrec : ∀ b : Bool, bitAt x.Hi x.Lo j = b → pointsmanref02_Put.l2 (k + j + 1) xs (pack (pre ++ [b]) M) ((pre ++ [b]).length : Int) (i : Int) (bitsOf x.Hi x.Lo n) ((j : Int) - 1) = some r := by
      intro b e
      have e1 : (pre ++ [b]) ++ (bitsOfNum n x.val).drop (n - j) = pre ++ b :: (bitsOfNum n x.val).drop (n - j) := by rw [List.append_assoc]; rfl
      have e2 : (pre ++ [b]).length + j = pre.length + (j + 1) := by rw [List.length_append, List.length_singleton]; omega
      rw [e] at h
      exact ih (by omega) (pre ++ [b]) k (by rw [e2]; exact hp) (by rw [e1, e2]; exact h)
    have hq : pre.length / 8 < M := by omega
    have hq0 : (0 : Int) ≤ ((pre.length / 8 : Nat) : Int) := by omega
    have hqM : ((pre.length / 8 : Nat) : Int) < ((pack pre M).length : Int) := by rw [pack_length]; omega
    have hr8 : pre.length % 8 < 8 := Nat.mod_lt _ (by decide)
    have hr0 : (0 : Int) ≤ ((7 - pre.length % 8 : Nat) : Int) := by omega
    have hj0 : (j : Int) ≥ 0 := by omega
    have hj1 : (0 : Int) ≤ (j : Int) := by omega
    have hj2 : (j : Int) < ((bitsOf x.Hi x.Lo n).length : Int) := by rw [bitsOf_length]; omega
    have hj3 : j < n := by omega
    have hpb : (pack pre M).getD (pre.length / 8) 0 = (packByte pre (pre.length / 8) : Int) := pack_getD _ _ _ hq
    have hd : Int.tdiv (pre.length : Int) 8 = ((pre.length / 8 : Nat) : Int) := by rw [Int.tdiv_eq_ediv_of_nonneg (by omega)]; omega
    have hm : Int.tmod (pre.length : Int) 8 = ((pre.length % 8 : Nat) : Int) := by rw [Int.tmod_eq_emod_of_nonneg (by omega)]; omega
    have hx10 : ((j + 1 : Nat) : Int) - 1 = (j : Int) := by omega
    have hpl : pre.length ≤ 8000000 := by omega
    have hjb : j ≤ 128 := by omega
    have hpl8 : pre.length / 8 ≤ 8000000 := by omega
    have hfu : k + (j + 1) + 1 = (k + j + 1) + 1 := by omega
    clear h ih hdrop hbit hlt hbl hp
    have e : Go.Proofs.YtmoakgkoahjijaaGreatDoorW.PrintWords.rd (pack pre M) ((pre.length / 8 : Nat) : Int) = (packByte pre (pre.length / 8) : Int) := by
      show (pack pre M).getD ((pre.length / 8 : Nat) : Int).toNat 0 = _
      rw [Int.toNat_natCast]
      exact hpb
    have ho := or8 (packByte pre (pre.length / 8)) (pre.length % 8) (packByte_lt _ _) hr8
    rw [hfu, pointsmanref02_Put.l2, hx10, if_pos hj0, if_pos hj1, if_pos hj2, bitsOf_get _ _ _ _ hj3, w_add _ hpl, w_sub _ hjb]
    by_cases hb : bitAt x.Hi x.Lo j = true
    · have hr := hrec true hb
      rw [pack_true pre M hq, List.length_append, List.length_singleton] at hr
      rw [if_pos hb, hd, hm, w_id _ hpl8, w_7 _ hr8, if_pos hq0, if_pos hqM, if_pos hr0, Int.toNat_natCast, e, ho]
      exact hr
    · have hr := hrec false (by simpa using hb)
      rw [pack_false, List.length_append, List.length_singleton] at hr
      rw [if_neg hb]
      exact hr
end Go.Proofs.YtmoakgkoahjijaaGreatDoor.PPut

/- The document's Put, whole: what it answers to any numbers. -/
set_option linter.unusedVariables false
set_option linter.unusedSimpArgs false
namespace Go.Proofs.YtmoakgkoahjijaaGreatDoor.PPut
open Go.RowKit Go.Proofs.YtmoakgkoahjijaaGreatDoorW.PrintWords Go.Proofs.YtmoakgkoahjijaaGreatDoorW.PrintLast Go.Proofs.YtmoakgkoahjijaaGreatDoorW.PrintMore PkMath

/-- What is put together of any numbers. -/
def putRes (xs : List Num) : List Int × Int := if xs.all Num.okB then (if 524288 < (allBits xs).length then ([], 3) else (pack (allBits xs) (((allBits xs).length + 7) / 8), 0)) else ([], 1)
theorem map_len (xs : List Num) : (xs.map toS).length = xs.length := by simp
theorem all_okB (xs : List Num) (h : ∀ j, j < xs.length → (xs.getD j zeroNum).okB = true) : xs.all Num.okB = true := by
  rw [List.all_eq_true]
  intro x hx
  obtain ⟨j, hj, rfl⟩ := List.mem_iff_getElem.1 hx
  have := h j hj
  rwa [List.getD_eq_getElem?_getD, List.getElem?_eq_getElem hj] at this
theorem not_all_okB (xs : List Num) (j : Nat) (hj : j < xs.length) (h : (xs.getD j zeroNum).okB = false) : xs.all Num.okB = false := by
  rw [List.all_eq_false]
  refine ⟨xs[j], List.getElem_mem hj, ?_⟩
  rw [List.getD_eq_getElem?_getD, List.getElem?_eq_getElem hj] at h
  simp only [Option.getD_some] at h
  rw [h]; decide
theorem put_l1 (xs : List Num) (M : Nat) (hM : M ≤ 65536) (hwf : ∀ j, j < xs.length → (xs.getD j zeroNum).wf) (hok : allOk xs) (hb : (allBits xs).length ≤ 8 * M) : ∀ (d i : Nat), i + d = xs.length → ∀ k, d * 200 + 400 ≤ k →
    pointsmanref02_Put.l1 k (xs.map toS) (pack (allBits (xs.take i)) M) ((allBits (xs.take i)).length : Int) (i : Int) = some (pack (allBits xs) M, 0) := by
  intro d
  induction d with
  | zero =>
    intro i hi k hk
    obtain ⟨k, rfl⟩ : ∃ m, k = m + 1 := ⟨k - 1, by omega⟩
    rw [pointsmanref02_Put.l1, map_len, if_neg (by omega), List.take_of_length_le (by omega)]
  | succ d ih =>
    intro i hi k hk
    have hlt : i < xs.length := by omega
    obtain ⟨x, hx⟩ : ∃ x, x = xs.getD i zeroNum := ⟨_, rfl⟩
    have hw := hwf i hlt
    have ho := hok i hlt
    rw [← hx] at hw ho
    have hW1 := ho.1
    have hW2 := ho.2.1
    obtain ⟨n, hn⟩ : ∃ n : Nat, x.W = (n : Int) := ⟨x.W.toNat, by omega⟩
    have hWn : x.W.toNat = n := by omega
    have hn1 : n ≤ 128 := by omega
    have hbits : x.bits = bitsOfNum n x.val := by unfold Num.bits; rw [hWn]
    have hnext : allBits (xs.take (i + 1)) = allBits (xs.take i) ++ bitsOfNum n x.val := by rw [allBits_take_succ _ _ hlt, ← hx, hbits]
    have hlen2 : (allBits (xs.take (i + 1))).length = (allBits (xs.take i)).length + n := by rw [hnext, List.length_append, bitsOfNum_length]
    have hle := allBits_len_take xs (i + 1)
    have hin := ih (i + 1) (by omega)
    obtain ⟨k, rfl⟩ : ∃ m, k = (m + n + 1) + 1 := ⟨k - n - 2, by omega⟩
    have hin := hin k (by omega)
    have hpl : (allBits (xs.take i)).length + n ≤ 8 * M := by omega
    have hi8 : i ≤ 8000000 ∨ 8000000 < i := by omega
    have hib : ∀ q : Nat, q < xs.length → q ≤ (allBits xs).length := by
      intro q hq
      have h1 : ∀ q : Nat, q ≤ xs.length → q ≤ (allBits (xs.take q)).length := by
        intro q
        induction q with
        | zero => intro _; omega
        | succ q ihq =>
          intro hq
          have := ihq (by omega)
          rw [allBits_len_succ _ _ (by omega)]
          have := (hok q (by omega)).1
          omega
      exact Nat.le_trans (h1 q (by omega)) (allBits_len_take xs q)
    have hi9 : i ≤ 8000000 := by have := hib i hlt; omega
    have hbl : (bitsOf x.Hi x.Lo n).length = n := bitsOf_length _ _ _
    have hrb := ref_bits x.Hi x.Lo hw.2.1 hw.2.2 n hn1 (k + n + 1) (by omega)
    have hwi : wrap64 ((i : Int) + 1) = ((i + 1 : Nat) : Int) := w_add i hi9
    have hl2 := put_l2 (xs.map toS) M i x hw n hn1 (pack (allBits xs) M, 0) (Nat.le_trans hM (by decide)) n (Nat.le_refl _) (allBits (xs.take i)) k hpl (by
      rw [Nat.sub_self, List.drop_zero, ← hnext, ← hlen2, hwi]
      exact hin)
    have hwn : wrap64 ((n : Int) - 1) = (n : Int) - 1 := w_sub n hn1
    rw [pointsmanref02_Put.l1, map_len, if_pos (Int.ofNat_lt.2 hlt), if_pos (Int.natCast_nonneg i), rd_toS, ← hx]
    show ((pointsmanref01_Bits.f (k + n + 1) x.W x.Hi x.Lo).bind _) = _
    rw [hn, hrb]
    simp only [Option.bind_some]
    rw [hbl, hwn]
    exact hl2
theorem put_l0 (xs : List Num) (hn : xs.length ≤ 1048576) (hwf : ∀ j, j < xs.length → (xs.getD j zeroNum).wf) : ∀ (d i : Nat), i + d = xs.length → (∀ j, j < i → (xs.getD j zeroNum).ok) → ∀ k, d + xs.length * 200 + 500 ≤ k →
    pointsmanref02_Put.l0 k (xs.map toS) ((allBits (xs.take i)).length : Int) (i : Int) = some (putRes xs) := by
  intro d
  induction d with
  | zero =>
    intro i hi hok k hk
    have hi' : i = xs.length := by omega
    subst hi'
    have hall : allOk xs := fun j hj => hok j hj
    have hB : xs.all Num.okB = true := all_okB xs fun j hj => (Num.okB_iff _).2 (hok j hj)
    obtain ⟨k, rfl⟩ : ∃ m, k = m + 1 := ⟨k - 1, by omega⟩
    rw [pointsmanref02_Put.l0, map_len, if_neg (by omega), List.take_of_length_le (Nat.le_refl _)]
    unfold putRes
    rw [if_pos hB]
    have h1 := put_l1 xs (((allBits xs).length + 7) / 8)
    by_cases hbig : 524288 < (allBits xs).length
    · rw [if_pos hbig, if_pos (by omega)]
    · rw [if_neg hbig, if_neg (by omega)]
      have h2 := h1 (by omega) hwf hall (by omega) xs.length 0 (by omega) k (by omega)
      clear h1
      generalize hL : (allBits xs).length = L at *
      have e1 : wrap64 ((L : Int) + 7) = ((L + 7 : Nat) : Int) := (wrap_of_small _ (by omega) (by omega)).trans (by omega)
      have e2 : Int.tdiv ((L + 7 : Nat) : Int) 8 = (((L + 7) / 8 : Nat) : Int) := by clear e1; rw [Int.tdiv_eq_ediv_of_nonneg (by omega)]; omega
      have e3 : wrap64 (((L + 7) / 8 : Nat) : Int) = (((L + 7) / 8 : Nat) : Int) := by clear e1 e2; exact w_id _ (by omega)
      have e4 : List.replicate ((L + 7) / 8) (0 : Int) = pack [] ((L + 7) / 8) := by
        clear e1 e2 e3
        apply List.ext_getElem?
        intro q
        simp only [pack, List.getElem?_map, List.getElem?_replicate, List.getElem?_range]
        by_cases hq : q < (L + 7) / 8
        · simp [hq, packByte_nil]
        · simp [hq]
      have hm : (L + 7) / 8 ≤ 281474976710656 := by clear e1 e2 e3; omega
      rw [e1, e2, e3, if_pos (Int.natCast_nonneg _), Int.toNat_natCast, if_pos hm, e4]
      exact h2
  | succ d ih =>
    intro i hi hok k hk
    have hlt : i < xs.length := by omega
    obtain ⟨x, hx⟩ : ∃ x, x = xs.getD i zeroNum := ⟨_, rfl⟩
    have hw := hwf i hlt
    rw [← hx] at hw
    obtain ⟨k, rfl⟩ : ∃ m, k = m + 1 := ⟨k - 1, by omega⟩
    have hck := check_ref x hw k (by omega)
    rw [pointsmanref02_Put.l0, map_len, if_pos (Int.ofNat_lt.2 hlt), if_pos (Int.natCast_nonneg i), rd_toS, ← hx]
    show ((pointsmanref01_Check.f k x.W x.Hi x.Lo).bind _) = _
    rw [hck]
    simp only [Option.bind_some]
    by_cases hb : x.okB = true
    · have ho := (Num.okB_iff x).1 hb
      have hok2 : ∀ j, j < i + 1 → (xs.getD j zeroNum).ok := by
        intro j hj
        rcases Nat.lt_or_ge j i with h | h
        · exact hok j h
        · obtain rfl : j = i := by omega
          rw [← hx]; exact ho
      have hin := ih (i + 1) (by omega) hok2 k (by omega)
      have hW1 := ho.1
      have hW2 := ho.2.1
      obtain ⟨n, hn'⟩ : ∃ n : Nat, x.W = (n : Int) := ⟨x.W.toNat, by omega⟩
      have hlen2 : (allBits (xs.take (i + 1))).length = (allBits (xs.take i)).length + n := by
        rw [allBits_len_succ _ _ hlt, ← hx]
        omega
      have hbd : ∀ q, q ≤ i + 1 → (allBits (xs.take q)).length ≤ 128 * q := by
        intro q
        induction q with
        | zero => intro _; simp [allBits]
        | succ q ihq =>
          intro hq
          rw [allBits_len_succ _ _ (by omega)]
          have := ihq (by omega)
          have := (hok2 q (by omega)).2.1
          omega
      have hb1 := hbd (i + 1) (Nat.le_refl _)
      rw [hlen2] at hin hb1
      have e1 : wrap64 (((allBits (xs.take i)).length : Int) + (n : Int)) = (((allBits (xs.take i)).length + n : Nat) : Int) := (wrap_of_small _ (by omega) (by omega)).trans (by omega)
      have e2 : wrap64 ((i : Int) + 1) = ((i + 1 : Nat) : Int) := by clear e1; exact (wrap_of_small _ (by omega) (by omega)).trans (by omega)
      rw [if_pos hb]
      show pointsmanref02_Put.l0 k (xs.map toS) (wrap64 (((allBits (xs.take i)).length : Int) + x.W)) (wrap64 ((i : Int) + 1)) = _
      rw [hn', e1, e2]
      exact hin
    · rw [if_neg hb]
      unfold putRes
      rw [not_all_okB xs i hlt (by rw [← hx]; simpa using hb)]
      rfl
theorem ref_put (xs : List Num) (hn : xs.length ≤ 1048576) (hwf : ∀ j, j < xs.length → (xs.getD j zeroNum).wf) : ∃ k, pointsmanref02_Put.f k (xs.map toS) = some (putRes xs) := by
  have h := put_l0 xs hn hwf xs.length 0 (Nat.zero_add _) (fun j hj => absurd hj (Nat.not_lt_zero j)) _ (Nat.le_refl _)
  have e1 : ((allBits (xs.take 0)).length : Int) = 0 := by rw [List.take_zero, allBits_nil]; rfl
  have e2 : ((0 : Nat) : Int) = 0 := rfl
  rw [e1, e2] at h
  generalize xs.length + xs.length * 200 + 500 = k at h
  exact ⟨k, h⟩
end Go.Proofs.YtmoakgkoahjijaaGreatDoor.PPut

/- append onto a row of the call's own, of elements of any number of cells. -/
set_option linter.unusedVariables false
set_option linter.unusedSimpArgs false
namespace Go.Proofs.YtmoakgkoahjijaaGreatDoor
open Go.RowKit

/-- A slice whose cells are known, as append reads it. -/
def Cells (w : World) (A : Option Addr) (m size : Nat) (ys : List Value) : Prop :=
  ys.length = m * size ∧ (∀ u ∈ ys, u.oneCell' = true) ∧ (0 < m → ∃ ad, A = some ad ∧ ∀ j u, ys[j]? = some u → w.cell? (ad.add j) = some u)
theorem Cells.lit (w : World) (e : TypeId) (cs : Array Value) (m size : Nat) (hl : cs.size = m * size) (h1 : ∀ u ∈ cs.toList, u.oneCell' = true) : Cells (w.alloc (.cells cs e)) (some ⟨w.heap.size, 0, none⟩) m size cs.toList :=
  ⟨by simpa using hl, h1, fun _ => ⟨_, rfl, fun j u hu => by rw [add_plain, cellOf (heap_alloc_new w (.cells cs e)) j]; simpa using hu⟩⟩

theorem run_append_cells {P : Program} {W : World} (base : Nat) (t ty e : TypeId) (z : Value) (size bytes : Nat)
    (ht : P.underlying t = some (.slice e)) (hinfo : (P.info? e).map (fun i => (i.zero, i.size, i.bytes)) = some (some z, size, bytes)) (hz : z.cells.size = size) (hs0 : 0 < size) (hb0 : 0 < bytes)
    (v : Value) (n : Nat) (xs ys : List Value) (A : Option Addr) (m c : Nat)
    (HO : W.ownsRow base e size v n xs) (HC : Cells W A m size ys) (hbase : base ≤ W.heap.size) (hl : (n + m) * bytes ≤ 140737488355328) :
    ∃ v1 w1, (Builtin.append_ #[t, t] ty #[v, .slice A m c]).run P W = .ok v1 w1 ∧ w1.ownsRow base e size v1 (n + m) (xs ++ ys) ∧ W.grownBy w1 v.ownBlock ∧ (v1.ownBlock = v.ownBlock ∨ v1.ownBlock = some W.heap.size) := by
  obtain ⟨i0, hi, hzz⟩ := Option.map_eq_some_iff.1 hinfo
  simp only [Prod.mk.injEq] at hzz
  obtain ⟨hz0, hz1, hz2⟩ := hzz
  have hlen : n + m ≤ 140737488355328 := Nat.le_trans (Nat.le_mul_of_pos_right _ hb0) hl
  rcases A with _ | ad
  · have h0 : m = 0 := by
      rcases Nat.eq_zero_or_pos m with h0 | h0
      · exact h0
      · obtain ⟨ad, h, _⟩ := HC.2.2 h0
        cases h
    subst h0
    obtain rfl : ys = [] := List.eq_nil_of_length_eq_zero (by simpa using HC.1)
    refine ⟨v, W, ?_, by simpa using HO, World.grownBy.refl W _, .inl rfl⟩
    rcases HO.2 with ⟨rfl, hn⟩ | ⟨g, cap, cur, rfl, _, _, hnc, _⟩
    · simp [Builtin.append_, run_underlying ht, sizeOf, typeInfo, hi, Builtin.lenOf, Builtin.firstCells]
    · simp [Builtin.append_, run_underlying ht, sizeOf, typeInfo, hi, Builtin.lenOf, Builtin.firstCells, hnc, storeCells]
  · have hcells : ∀ j u, ys[j]? = some u → W.cell? (ad.add j) = some u := by
      intro j u hu
      rcases Nat.eq_zero_or_pos m with h0 | h0
      · subst h0
        obtain rfl : ys = [] := List.eq_nil_of_length_eq_zero (by simpa using HC.1)
        simp at hu
      · obtain ⟨ad', h', hc⟩ := HC.2.2 h0
        injection h' with h'
        subst h'
        exact hc j u hu
    obtain ⟨v1, w1, hr, h2, h3, _, h5⟩ := run_append_own_at (P := P) W base t ty e i0 z size bytes ht hi hz0 hz1 hz2 hz hs0 v n xs HO ad m c ys HC.1 hcells HC.2.1 (by simp only [maxLen]; omega) hl hbase
    exact ⟨v1, w1, hr, h2, h3, h5⟩
theorem wp_append_cells {P : Program} {o : Oper} {a : Act} {K : Act → World → Prop} {Q : Exit → Act → World → Prop} {W : World} (base : Nat) (s x : Operand) (t e : TypeId) (z : Value) (size bytes : Nat)
    (ho : o.op = .call { callee := .builtin .append, args := #[s, x], argTypes := #[t, t] })
    (ht : P.underlying t = some (.slice e)) (hinfo : (P.info? e).map (fun i => (i.zero, i.size, i.bytes)) = some (some z, size, bytes)) (hz : z.cells.size = size) (hs0 : 0 < size) (hb0 : 0 < bytes)
    (v : Value) (n : Nat) (xs ys : List Value) (A : Option Addr) (m c : Nat) (hs : a.eval s = v) (hx : a.eval x = .slice A m c)
    (HO : W.ownsRow base e size v n xs) (HC : Cells W A m size ys) (hbase : base ≤ W.heap.size) (hl : (n + m) * bytes ≤ 140737488355328)
    (h : ∀ v1 w1, w1.ownsRow base e size v1 (n + m) (xs ++ ys) → W.grownBy w1 v.ownBlock → (v1.ownBlock = v.ownBlock ∨ v1.ownBlock = some W.heap.size) → K (a.put o.dst v1) w1) :
    o.wp P a W K Q := by
  obtain ⟨v1, w1, hr, hown, hg, hat⟩ := run_append_cells (P := P) (W := W) base t o.type e z size bytes ht hinfo hz hs0 hb0 v n xs ys A m c HO HC hbase hl
  unfold Oper.wp execOp
  simp only [ho, resolve, invoke, builtin, Sem.run_bind, Sem.run_pure, Result.andThen_ok, List.map_toArray, List.map_cons, List.map_nil, hs, hx, hr]
  exact h v1 w1 hown hg hat
/-- The law at a plain region's list. -/
theorem append_cells {P : Program} {ops : Array Oper} {rest : List Oper} {o : Oper} {a : Act} {Q : Exit → Act → World → Prop} {W : World} (base : Nat) (hgd : o.guard = none) (s x : Operand) (t e : TypeId) (z : Value) (size bytes : Nat)
    (ho : o.op = .call { callee := .builtin .append, args := #[s, x], argTypes := #[t, t] })
    (ht : P.underlying t = some (.slice e)) (hinfo : (P.info? e).map (fun i => (i.zero, i.size, i.bytes)) = some (some z, size, bytes)) (hz : z.cells.size = size) (hs0 : 0 < size) (hb0 : 0 < bytes)
    (v : Value) (n : Nat) (xs ys : List Value) (A : Option Addr) (m c : Nat) (hs : a.eval s = v) (hx : a.eval x = .slice A m c)
    (HO : W.ownsRow base e size v n xs) (HC : Cells W A m size ys) (hbase : base ≤ W.heap.size) (hl : (n + m) * bytes ≤ 140737488355328)
    (h : ∀ v1 w1, w1.ownsRow base e size v1 (n + m) (xs ++ ys) → W.grownBy w1 v.ownBlock → (v1.ownBlock = v.ownBlock ∨ v1.ownBlock = some W.heap.size) → wpList P ops Q rest (a.put o.dst v1) w1) :
    wpList P ops Q (o :: rest) a W := by
  refine wpList_plain hgd fun K hK => ?_
  exact wp_append_cells base s x t e z size bytes ho ht hinfo hz hs0 hb0 v n xs ys A m c hs hx HO HC hbase hl fun v1 w1 h1 h2 h3 => hK _ _ (h v1 w1 h1 h2 h3)
/-- The law at a step of a region that draws its order. -/
theorem step_append_cells {P : Program} {ops : Array Oper} {o : Oper} {a : Act} {K : Act → World → Prop} {Q : Exit → Act → World → Prop} {E : Prop} {W : World} (base : Nat) (hgd : o.guard = none) (s x : Operand) (t e : TypeId) (z : Value) (size bytes : Nat)
    (ho : o.op = .call { callee := .builtin .append, args := #[s, x], argTypes := #[t, t] })
    (ht : P.underlying t = some (.slice e)) (hinfo : (P.info? e).map (fun i => (i.zero, i.size, i.bytes)) = some (some z, size, bytes)) (hz : z.cells.size = size) (hs0 : 0 < size) (hb0 : 0 < bytes)
    (v : Value) (n : Nat) (xs ys : List Value) (A : Option Addr) (m c : Nat) (hs : a.eval s = v) (hx : a.eval x = .slice A m c)
    (HO : W.ownsRow base e size v n xs) (HC : Cells W A m size ys) (hbase : base ≤ W.heap.size) (hl : (n + m) * bytes ≤ 140737488355328)
    (h : ∀ v1 w1, w1.ownsRow base e size v1 (n + m) (xs ++ ys) → W.grownBy w1 v.ownBlock → (v1.ownBlock = v.ownBlock ∨ v1.ownBlock = some W.heap.size) → K (a.put o.dst v1) w1) :
    if Region.wanted o (yielded ops a.tmps) = true then Oper.wp P o a W K Q else E := by
  have hw : Region.wanted o (yielded ops a.tmps) = true := by simp [Region.wanted, hgd]
  rw [if_pos hw]
  exact wp_append_cells base s x t e z size bytes ho ht hinfo hz hs0 hb0 v n xs ys A m c hs hx HO HC hbase hl h
end Go.Proofs.YtmoakgkoahjijaaGreatDoor

/- Numbers of bits in a row of the call's own. -/
set_option linter.unusedVariables false
set_option linter.unusedSimpArgs false
namespace Go.Proofs.YtmoakgkoahjijaaGreatDoor
open Go.RowKit

theorem infoBits : (Tryz.prog.info? 79).map (fun i => (i.zero, i.size, i.bytes)) = some (some (.agg #[.int .i64 0, .int .u64 0, .int .u64 0]), 3, 24) := by kernel_rfl
def Num.cells (x : Num) : List Value := [.int .i64 x.W, .int .u64 x.Hi, .int .u64 x.Lo]
def numsV (l : List Num) : List Value := l.flatMap Num.cells
theorem numsV_append (l m : List Num) : numsV (l ++ m) = numsV l ++ numsV m := List.flatMap_append ..
theorem numsV_one (x : Num) : numsV [x] = [.int .i64 x.W, .int .u64 x.Hi, .int .u64 x.Lo] := by simp [numsV, Num.cells]
theorem numsV_length (l : List Num) : (numsV l).length = l.length * 3 := by
  induction l with
  | nil => rfl
  | cons x l ih => unfold numsV at *; rw [List.flatMap_cons, List.length_append, ih, List.length_cons]; show 3 + _ = _; omega
theorem numsV_get (l : List Num) : ∀ j, j < l.length → (numsV l)[j * 3]? = some (.int .i64 (l.getD j zeroNum).W) ∧ (numsV l)[j * 3 + 1]? = some (.int .u64 (l.getD j zeroNum).Hi) ∧ (numsV l)[j * 3 + 2]? = some (.int .u64 (l.getD j zeroNum).Lo) := by
  induction l with
  | nil => intro j hj; simp at hj
  | cons x l ih =>
    intro j hj
    have e : numsV (x :: l) = .int .i64 x.W :: .int .u64 x.Hi :: .int .u64 x.Lo :: numsV l := by unfold numsV; rw [List.flatMap_cons]; rfl
    rw [e]
    cases j with
    | zero => exact ⟨rfl, rfl, rfl⟩
    | succ j =>
      have h := ih j (by simpa using hj)
      rw [show (j + 1) * 3 = j * 3 + 3 by omega, List.getD_cons_succ]
      exact h
theorem own_nums {w : World} {base n : Nat} {v : Value} {l : List Num} (hl : l.length = n) (hn : n ≤ 9223372036854775807) (h : w.ownsRow base 79 3 v n (numsV l)) : ∃ A c, v = .slice A n c ∧ ReadsNums w A n l := by
  rcases h.2 with ⟨rfl, h0⟩ | ⟨g, cap, cur, rfl, hg, hh, hnc, hcm, hcs, ht⟩
  · exact ⟨none, 0, by rw [h0], hl, hn, fun h => by omega⟩
  · refine ⟨some ⟨g, 0, none⟩, cap, rfl, hl, hn, fun hp => ⟨g, 0, rfl, (Array.getElem?_eq_some_iff.1 hh).1, fun j hj => ?_⟩⟩
    obtain ⟨c0, c1, c2⟩ := numsV_get l j (by omega)
    have k : ∀ (i : Nat) (v : Value), (numsV l)[i]? = some v → w.cell? ⟨g, i, none⟩ = some v := fun i v hv => by
      have := h.cells (g := g) rfl i v hv
      rwa [add_plain] at this
    rw [Nat.zero_add, Nat.zero_add, Nat.zero_add]
    exact ⟨k _ _ c0, k _ _ c1, k _ _ c2⟩
end Go.Proofs.YtmoakgkoahjijaaGreatDoor

/- A book of lists of bytes, as it lies in memory: a block of its own, a row of what is held, and each list's own blocks. -/
set_option linter.unusedVariables false
set_option linter.unusedSimpArgs false
namespace Go.Proofs.YtmoakgkoahjijaaGreatDoor
open Go.RowKit

/-- The mark of the list of index i (its number is i + 1). -/
def mark (i : Nat) : Int := 1 + (((i + 1) % 250 : Nat) : Int)
theorem mark_bd (i : Nat) : 1 ≤ mark i ∧ mark i ≤ 250 := by unfold mark; omega
def flat3 : Nat → List (Value × Value) → List Value
  | _, [] => []
  | i, p :: ps => p.1 :: p.2 :: .int .i64 ((i : Int) + 1) :: flat3 (i + 1) ps
theorem flat3_length : ∀ (ps : List (Value × Value)) (i : Nat), (flat3 i ps).length = ps.length * 3
  | [], _ => rfl
  | p :: ps, i => by simp only [flat3, List.length_cons, flat3_length ps (i + 1)]; omega
theorem flat3_append : ∀ (a b : List (Value × Value)) (i : Nat), flat3 i (a ++ b) = flat3 i a ++ flat3 (i + a.length) b
  | [], b, i => by simp [flat3]
  | p :: a, b, i => by
    simp only [List.cons_append, flat3, flat3_append a b (i + 1), List.length_cons]
    rw [show i + 1 + a.length = i + (a.length + 1) by omega]
theorem flat3_get : ∀ (ps : List (Value × Value)) (i j : Nat) (p : Value × Value), ps[j]? = some p → (flat3 i ps)[j * 3]? = some p.1 ∧ (flat3 i ps)[j * 3 + 1]? = some p.2 ∧ (flat3 i ps)[j * 3 + 2]? = some (.int .i64 ((i : Int) + (j : Int) + 1))
  | [], i, j, p, h => by cases h
  | q :: ps, i, 0, p, h => by
    simp only [List.getElem?_cons_zero, Option.some.injEq] at h
    subst h
    simp [flat3]
  | q :: ps, i, j + 1, p, h => by
    have h' : ps[j]? = some p := by simpa using h
    obtain ⟨h1, h2, h3⟩ := flat3_get ps (i + 1) j p h'
    rw [show (j + 1) * 3 = j * 3 + 1 + 1 + 1 by omega]
    simp only [flat3, List.getElem?_cons_succ]
    refine ⟨h1, h2, ?_⟩
    rw [h3]
    congr 2
    omega
theorem flat3_set : ∀ (ps : List (Value × Value)) (i j : Nat) (p : Value × Value) (u : Value), ps[j]? = some p → (flat3 i ps).set (j * 3 + 1) u = flat3 i (ps.set j (p.1, u))
  | [], i, j, p, u, h => by cases h
  | q :: ps, i, 0, p, u, h => by
    simp only [List.getElem?_cons_zero, Option.some.injEq] at h
    subst h
    simp [flat3]
  | q :: ps, i, j + 1, p, u, h => by
    have h' : ps[j]? = some p := by simpa using h
    rw [show (j + 1) * 3 + 1 = j * 3 + 1 + 1 + 1 + 1 by omega]
    simp only [flat3, List.set_cons_succ]
    rw [flat3_set ps (i + 1) j p u h']

/-- The book's own cells: how many lists, and the rows of each kind, of which only that of bytes is not empty. -/
def bookCells (N : Nat) (row : Value) : Array Value := #[.int .i64 (N : Int), .slice none 0 0, row, .slice none 0 0, .slice none 0 0, .slice none 0 0, .slice none 0 0, .slice none 0 0, .slice none 0 0, .slice none 0 0, .slice none 0 0, .slice none 0 0, .slice none 0 0, .slice none 0 0, .slice none 0 0, .slice none 0 0,
  .slice none 0 0, .slice none 0 0, .slice none 0 0, .slice none 0 0, .slice none 0 0, .slice none 0 0, .slice none 0 0, .slice none 0 0, .slice none 0 0, .slice none 0 0, .slice none 0 0, .slice none 0 0, .slice none 0 0, .slice none 0 0, .slice none 0 0]
/-- The book at block b; list i has the blocks that F i tells. -/
structure Bk (W : World) (base b : Nat) (row : Value) (ps : List (Value × Value)) (F : Nat → Nat → Prop) : Prop where
  hb : W.heap[b]? = some (.cells (bookCells ps.length row) 61 (0, 0))
  hr : W.ownsRow base 118 3 row ps.length (flat3 0 ps)
  rb : row.ownBlock ≠ some b
  bb : base ≤ b
  fl : ∀ i k, F i k → base ≤ k ∧ k < W.heap.size ∧ k ≠ b ∧ row.ownBlock ≠ some k
  fd : ∀ i j k, F i k → F j k → i = j
/-- A list that is a row of the law's own. -/
def L1 (W : World) (base : Nat) (F : Nat → Prop) (v : Value) (n : Nat) : Prop := ∃ xs : List Int, W.ownsRow base 5 1 v n (nums .u8 xs) ∧ ∀ k, v.ownBlock = some k → F k
/-- It is full of marks. -/
def L2 (W : World) (base : Nat) (F : Nat → Prop) (v : Value) (n : Nat) (i : Nat) : Prop := W.ownsRow base 5 1 v n (nums .u8 (List.replicate n (mark i))) ∧ ∀ k, v.ownBlock = some k → F k
/-- More is put behind it. -/
def L3 (W : World) (base : Nat) (F : Nat → Prop) (v long : Value) (n : Nat) (i : Nat) : Prop :=
  W.ownsRow base 5 1 long (n + 40) (nums .u8 (List.replicate (n + 40) (mark i))) ∧ (∀ k, long.ownBlock = some k → F k) ∧ ∃ A c, v = .slice A n c ∧ n ≤ c ∧ Reads W .u8 A n (List.replicate n (mark i)) ∧ (0 < n → ∃ g, A = some ⟨g, 0, none⟩ ∧ F g)
section
variable {W W' : World} {base b n i : Nat} {F G : Nat → Prop} {v long : Value}
theorem own_foot {e : TypeId} {size m : Nat} {u : Value} {xs : List Value} (h : W.ownsRow base e size u m xs) (hf : Foot G W W') (hne : ∀ k, u.ownBlock = some k → ¬ G k) : W'.ownsRow base e size u m xs := by
  refine ⟨h.1, h.2.elim .inl ?_⟩
  rintro ⟨g, cap, cur, h1, h2, h3, r⟩
  exact .inr ⟨g, cap, cur, h1, h2, hf.blk h3 (hne g (by rw [h1]; rfl)), r⟩
theorem L1.foot (h : L1 W base F v n) (hf : Foot G W W') (hne : ∀ k, F k → ¬ G k) : L1 W' base F v n := by
  obtain ⟨xs, h1, h2⟩ := h
  exact ⟨xs, own_foot h1 hf (fun k hk => hne k (h2 k hk)), h2⟩
theorem L2.foot (h : L2 W base F v n i) (hf : Foot G W W') (hne : ∀ k, F k → ¬ G k) : L2 W' base F v n i := ⟨own_foot h.1 hf (fun k hk => hne k (h.2 k hk)), h.2⟩
theorem Bk.foot {row : Value} {ps : List (Value × Value)} {F : Nat → Nat → Prop} (h : Bk W base b row ps F) (hf : Foot G W W') (hb : ¬ G b) (hr : ∀ k, row.ownBlock = some k → ¬ G k) : Bk W' base b row ps F :=
  ⟨hf.blk h.hb hb, own_foot h.hr hf hr, h.rb, h.bb, fun i k hk => ⟨(h.fl i k hk).1, Nat.lt_of_lt_of_le (h.fl i k hk).2.1 hf.size, (h.fl i k hk).2.2⟩, h.fd⟩
end
/-- An append that makes a new block leaves all old ones as they were. -/
theorem append_far {P : Program} {W w1 : World} {base : Nat} {t ty e : TypeId} {k : IntKind} {bytes : Nat} (ht : P.underlying t = some (.slice e)) (hinfo : (P.info? e).map (fun i => (i.zero, i.size, i.bytes)) = some (some (.int k 0), 1, bytes))
    {v v1 : Value} {xs ys : List Int} {ad : Addr} {m c : Nat} (HO : W.ownsRow base e 1 v xs.length (nums k xs)) (HR : Reads W k (some ad) m ys) (hm : 0 < m) (hl : (xs.length + m) * bytes ≤ 140737488355328) (hb0 : 0 < bytes)
    (hr : (Builtin.append_ #[t, t] ty #[v, .slice (some ad) m c]).run P W = .ok v1 w1) (hat : v1.ownBlock = some W.heap.size) : W.grownBy w1 none := by
  obtain ⟨i0, hi, hzz⟩ := Option.map_eq_some_iff.1 hinfo
  simp only [Prod.mk.injEq] at hzz
  obtain ⟨hz0, hz1, hz2⟩ := hzz
  have hyl : ys.length = m := HR.1
  have hlen : xs.length + m ≤ 140737488355328 := Nat.le_trans (Nat.le_mul_of_pos_right _ hb0) hl
  have hcells : ∀ j u, (nums k ys)[j]? = some u → W.cell? (ad.add j) = some u := by
    intro j u hu
    have hj : j < ys.length := by
      rcases Nat.lt_or_ge j ys.length with h | h
      · exact h
      · simp [nums, List.getElem?_eq_none h] at hu
    obtain ⟨ad', h', hc⟩ := HR.2.2 hm
    injection h' with h'
    subst h'
    have := hc j (by omega)
    simp [nums, List.getElem?_eq_getElem hj] at hu
    subst hu
    rw [this]
    simp [List.getD_eq_getElem?_getD, List.getElem?_eq_getElem hj]
  have hnl : (nums k ys).length = m * i0.size := by rw [hz1]; simp [nums, hyl]
  rcases HO.2 with ⟨rfl, h0⟩ | ⟨g, cap, cur, rfl, hbg, hg, hnc, hcm, hcs, htake⟩
  · have hr2 := run_append_nil (P := P) W t ty e i0 (.int k 0) ht hi hz0 ad m c (nums k ys) hnl hcells hm (by omega) (by rw [hz2]; have : m * bytes ≤ (xs.length + m) * bytes := Nat.mul_le_mul_right _ (by omega); omega)
    rw [hr] at hr2
    injection hr2 with e1 e2
    subst e2
    exact ⟨rfl, rfl, rfl, by simp, fun k hk _ => Below.heap_alloc W.drew _ k hk⟩
  · by_cases hroom : xs.length + m ≤ cap
    · have hr2 := run_append_room (P := P) W t ty e i0 ht hi g xs.length cap cur hg ad m c (nums k ys) hnl hcells (by intro u hu; simp only [nums, List.mem_map] at hu; obtain ⟨q, _, rfl⟩ := hu; rfl) hroom (by rw [hz1, hcs]; simp [nums, hyl]; omega)
      rw [hr] at hr2
      injection hr2 with e1 e2
      subst e1
      have hgl := (Array.getElem?_eq_some_iff.1 hg).1
      have : g = W.heap.size := by simpa [Value.ownBlock] using hat
      omega
    · have hr2 := run_append_grow (P := P) W t ty e i0 (.int k 0) ht hi hz0 ⟨g, 0, none⟩ xs.length cap (nums k xs) (by rw [hz1]; simp [nums]) (HO.cells (g := g) rfl) ad m c (nums k ys) hnl hcells (by omega) (by omega) (by rw [hz2]; exact growslice_fits (by omega) hl)
      rw [hr] at hr2
      injection hr2 with e1 e2
      subst e2
      exact ⟨rfl, rfl, rfl, by simp, fun k hk _ => Below.heap_alloc W.drew _ k hk⟩
theorem wp_append_far {P : Program} {o : Oper} {a : Act} {K : Act → World → Prop} {Q : Exit → Act → World → Prop} {W : World} (base : Nat) (s x : Operand) (t e : TypeId) (k : IntKind) (bytes : Nat)
    (ho : o.op = .call { callee := .builtin .append, args := #[s, x], argTypes := #[t, t] })
    (ht : P.underlying t = some (.slice e)) (hinfo : (P.info? e).map (fun i => (i.zero, i.size, i.bytes)) = some (some (.int k 0), 1, bytes)) (hb0 : 0 < bytes)
    (v : Value) (xs ys : List Int) (ad : Addr) (m c : Nat) (hs : a.eval s = v) (hx : a.eval x = .slice (some ad) m c) (hm : 0 < m)
    (HO : W.ownsRow base e 1 v xs.length (nums k xs)) (HR : Reads W k (some ad) m ys) (hbase : base ≤ W.heap.size) (hl : (xs.length + m) * bytes ≤ 140737488355328)
    (h : ∀ v1 w1, w1.ownsRow base e 1 v1 (xs ++ ys).length (nums k (xs ++ ys)) → W.grownBy w1 v.ownBlock → (v1.ownBlock = v.ownBlock ∨ (v1.ownBlock = some W.heap.size ∧ W.grownBy w1 none)) → K (a.put o.dst v1) w1) :
    o.wp P a W K Q := by
  obtain ⟨v1, w1, hr, hown, hg, hat⟩ := run_append_row (P := P) (W := W) base t o.type e k bytes ht hinfo hb0 v xs ys (some ad) m c HO HR hbase hl
  have hat2 : v1.ownBlock = v.ownBlock ∨ (v1.ownBlock = some W.heap.size ∧ W.grownBy w1 none) := hat.imp id (fun h => ⟨h, append_far ht hinfo HO HR hm hl hb0 hr h⟩)
  unfold Oper.wp execOp
  simp only [ho, resolve, invoke, builtin, Sem.run_bind, Sem.run_pure, Result.andThen_ok, List.map_toArray, List.map_cons, List.map_nil, hs, hx, hr]
  exact h v1 w1 hown hg hat2
/-- The law at a plain region's list. -/
theorem append_row_far {P : Program} {ops : Array Oper} {rest : List Oper} {o : Oper} {a : Act} {Q : Exit → Act → World → Prop} {W : World} (base : Nat) (hgd : o.guard = none) (s x : Operand) (t e : TypeId) (k : IntKind) (bytes : Nat)
    (ho : o.op = .call { callee := .builtin .append, args := #[s, x], argTypes := #[t, t] })
    (ht : P.underlying t = some (.slice e)) (hinfo : (P.info? e).map (fun i => (i.zero, i.size, i.bytes)) = some (some (.int k 0), 1, bytes)) (hb0 : 0 < bytes)
    (v : Value) (xs ys : List Int) (ad : Addr) (m c : Nat) (hs : a.eval s = v) (hx : a.eval x = .slice (some ad) m c) (hm : 0 < m)
    (HO : W.ownsRow base e 1 v xs.length (nums k xs)) (HR : Reads W k (some ad) m ys) (hbase : base ≤ W.heap.size) (hl : (xs.length + m) * bytes ≤ 140737488355328)
    (h : ∀ v1 w1, w1.ownsRow base e 1 v1 (xs ++ ys).length (nums k (xs ++ ys)) → W.grownBy w1 v.ownBlock → (v1.ownBlock = v.ownBlock ∨ (v1.ownBlock = some W.heap.size ∧ W.grownBy w1 none)) → wpList P ops Q rest (a.put o.dst v1) w1) :
    wpList P ops Q (o :: rest) a W := by
  refine wpList_plain hgd fun K hK => ?_
  exact wp_append_far base s x t e k bytes ho ht hinfo hb0 v xs ys ad m c hs hx hm HO HR hbase hl fun v1 w1 h1 h2 h3 => hK _ _ (h v1 w1 h1 h2 h3)
end Go.Proofs.YtmoakgkoahjijaaGreatDoor

/- A region that draws its order: ahead of operation k all only read, or call what leaves the world within a class; from k on all go in one order. One walk serves every order: plainly, and under a fence. -/
set_option linter.unusedVariables false
set_option linter.unusedSimpArgs false
namespace Go.Proofs.YtmoakgkoahjijaaGreatDoor
open Go.RowKit

section
variable {P : Program} {ops : Array Oper} {md : Region.Mode} {C : World → Prop}

/-- Whatever order is picked, till the head is through. -/
def anyHead (P : Program) (md : Region.Mode) (ops : Array Oper) (C : World → Prop) (k : Nat) (L : Array Bool → Act → Prop) : Nat → Array Bool → Act → Prop
  | 0, listed, a => L listed a
  | f + 1, listed, a => Region.ready md ops listed ≠ [] ∧ ∀ i ∈ Region.ready md ops listed, i < k ∧ qOp P ops C i (anyHead P md ops C k L f (listed.setIfInBounds i true)) a

theorem any_of_head {k g : Nat} {L : Array Bool → Act → Prop} {Q' : Exit → Act → World → Prop} (hL : ∀ listed a w, C w → L listed a → wpAny P md ops Q' g listed a w) :
    ∀ (f : Nat) (listed : Array Bool) (a : Act) (w : World), C w → anyHead P md ops C k L f listed a → wpAny P md ops Q' (f + g) listed a w
  | 0, listed, a, w, hw, h => by rw [Nat.zero_add]; exact hL _ _ _ hw h
  | f + 1, listed, a, w, hw, h => by
    rw [show f + 1 + g = (f + g) + 1 by omega]
    exact ⟨fun h0 => absurd h0 h.1, fun i hi => wpOp_of_qOp hw (fun a' w' hw' h' => any_of_head hL f _ a' w' hw' h') (h.2 i hi).2⟩

theorem head_first {n i : Nat} {oi : Oper} {v : Value} {L : Array Bool → Act → Prop} (hi : ops[i]? = some oi) (hsel : ∀ (j : Nat) (o : Oper) cs b, ops[j]? = some o → o.op ≠ .select cs b)
    (hs : Region.sinkB md ops n = true) (hc : Region.chainB md ops n = true) (hn : n < ops.size) (hin : i < n)
    (hdone : ∀ listed a, L listed a → ∀ j ∈ Region.ready md ops listed, n ≤ j) :
    ∀ (f : Nat) (listed : Array Bool) (a : Act), HeadInv md ops n listed →
      (∀ j oj, ops[j]? = some oj → j ≠ i → listed.getD j true = false → (∀ e ∈ oj.after, Region.binds md e = true → e.on ≠ i) → oi.apart ops oj = true) →
      i ∈ Region.ready md ops listed → YieldsIn P ops C oi v a →
      anyHead P md ops C n L f (listed.setIfInBounds i true) (a.put oi.dst v) → anyHead P md ops C n L (f + 1) listed a := by
  intro f
  induction f with
  | zero =>
    intro listed a inv _ hr hy H
    have hun := (mem_ready.1 hr).1
    refine ⟨fun h => (by rw [h] at hr; cases hr), fun j hj => ?_⟩
    have hjn : j < n := (Nat.lt_or_ge j n).elim id fun h => absurd hj (tail_waits hs hc hn inv _ i rfl hin hun j h)
    refine ⟨hjn, ?_⟩
    by_cases hji : j = i
    · subst hji; exact hy.qOp hi H
    · have := hdone _ _ H j (ready_mono hj hji)
      omega
  | succ f ih =>
    intro listed a inv hfree hr hy H
    have hun := (mem_ready.1 hr).1
    refine ⟨fun h => (by rw [h] at hr; cases hr), fun j hj => ?_⟩
    have hjn : j < n := (Nat.lt_or_ge j n).elim id fun h => absurd hj (tail_waits hs hc hn inv _ i rfl hin hun j h)
    refine ⟨hjn, ?_⟩
    by_cases hji : j = i
    · subst hji; exact hy.qOp hi H
    · have h1 := (H.2 j (ready_mono hj hji)).2
      obtain ⟨hjun, oj, hoj, hall⟩ := mem_ready.1 hj
      have hnot : ∀ e ∈ oj.after, Region.binds md e = true → e.on ≠ i := fun e he hb heq => by
        have h1 := hall e he hb
        rw [heq, getD_both hun] at h1
        cases h1
      have h2 := qOp_put hoj (hfree j oj hoj hji hjun hnot) (fun cs b => hsel i oi cs b hi) (fun cs b => hsel j oj cs b hoj) hy h1
      have hfree' : ∀ k ok, ops[k]? = some ok → k ≠ i → (listed.setIfInBounds j true).getD k true = false →
          (∀ e ∈ ok.after, Region.binds md e = true → e.on ≠ i) → oi.apart ops ok = true := fun k ok hk hki hun hno => by
        refine hfree k ok hk hki ?_ hno
        by_cases hjk : j = k
        · subst hjk; exact hjun
        · rw [getD_set_ne true hjk] at hun; exact hun
      refine qOp_mono (fun a' h3 => ih (listed.setIfInBounds j true) a' (inv.set hj hjn) hfree' (ready_mono hr (Ne.symm hji)) h3.1 ?_) h2
      rw [Array.setIfInBounds_comm _ _ hji]
      exact h3.2

theorem head_lex {n g : Nat} {Lq : Act → Prop} (hsel : Region.noSelect ops = true) (hs : Region.sinkB md ops n = true) (hc : Region.chainB md ops n = true) (hn : n < ops.size) :
    ∀ (l : List Oper) (k : Nat) (listed : Array Bool) (a : Act), (∀ j, j < l.length → l[j]? = ops[k + j]?) → k + l.length = n → HeadInv md ops n listed →
    Region.lexHead md ops g l.length k listed = true → wpQuiet P ops C Lq l a →
    anyHead P md ops C n (fun listed' a' => Region.seqB md ops g n listed' = true ∧ Lq a') l.length listed a
  | [], k, listed, a, _, hk, _, hB, h => by
    have : k = n := by simpa using hk
    subst this
    exact ⟨by simpa [Region.lexHead] using hB, h⟩
  | o :: l, k, listed, a, hl, hk, inv, hB, h => by
    have h0 : ops[k]? = some o := by simpa using (hl 0 (by simp)).symm
    simp only [List.length_cons, Region.lexHead, Bool.and_eq_true] at hB
    obtain ⟨⟨hr, hf⟩, hB'⟩ := hB
    have hkn : k < n := by simp only [List.length_cons] at hk; omega
    have hr' : k ∈ Region.ready md ops listed := by simpa using hr
    have hst : qOp P ops C k (wpQuiet P ops C Lq l) a := by unfold qOp; simp only [h0]; exact h
    obtain ⟨v, hy, hK⟩ := yieldsIn_of_qOp h0 hst
    exact head_first h0 (Region.noSelect_spec hsel) hs hc hn hkn (fun listed' a' hL => seqB_ready hL.1) l.length listed a inv (Region.free_spec h0 hf) hr' hy
      (head_lex hsel hs hc hn l (k + 1) _ _ (fun j hj => by have := hl (j + 1) (by simp; omega); simpa [Nat.add_assoc, Nat.add_comm 1 j] using this) (by simp only [List.length_cons] at hk; omega) (inv.set hr' hkn) hB' hK)

theorem head_all {l : List Oper} {a : Act} {Lq : Act → Prop} (k : Nat) (hB : Region.lexTailB .any l.toArray k = true) (h : wpQuiet P l.toArray C Lq (l.take k) a) :
    k < l.length ∧ anyHead P .any l.toArray C k (fun listed' a' => Region.seqB .any l.toArray (l.length - k) k listed' = true ∧ Lq a') k (Array.replicate l.toArray.size false) a := by
  simp only [Region.lexTailB, Bool.and_eq_true, decide_eq_true_eq] at hB
  obtain ⟨⟨⟨⟨hsel, hn⟩, hs⟩, hc⟩, hlex⟩ := hB
  have hn' : k < l.length := by simpa using hn
  have htl : (l.take k).length = k := by simp; omega
  have inv0 : HeadInv .any l.toArray k (Array.replicate l.toArray.size false) :=
    ⟨by simp, fun j oj _ hl => (by rw [getD_replicate_false] at hl; cases hl), fun t _ ht => getD_in (by simpa using ht) (getD_replicate_false _ _)⟩
  have H := head_lex (md := .any) (C := C) (g := l.toArray.size - k) hsel hs hc hn (l.take k) 0 _ a (fun j hj => by
    have hj' : j < k := by rw [htl] at hj; exact hj
    simp [hj']) (by simpa using htl) inv0 (by rw [htl]; exact hlex) h
  rw [htl, List.size_toArray] at H
  exact ⟨hn', by simpa using H⟩

/-- Plainly. -/
theorem region_class_tail {id : Nat} {Q : Exit → Act → World → Prop} {a : Act} {w : World} {l : List Oper} (C : World → Prop) (k : Nat) (hm : P.follows .mixedOrders = true) (hB : Region.lexTailB .any l.toArray k = true) (hC : C w.drew)
    (h : wpQuiet P l.toArray C (fun a' => ∀ w', C w' → wpList P l.toArray Q (l.drop k) a' w') (l.take k) a) : (Code.region id l.toArray true).wp P Q a w := by
  obtain ⟨hn, H⟩ := head_all k hB h
  refine wp_region_any hm ?_
  have hdl : (l.drop k).length = l.length - k := by simp
  have := any_of_head (Q' := Q) (g := l.length - k) (fun listed a' w' hw' hL => by
    have := wpAny_of_seq (md := .any) (Q' := Q) (l.drop k) k listed a' w' (fun j => by simp [List.getElem?_drop]) (by rw [hdl]; exact hL.1) (hL.2 w' hw')
    rwa [hdl] at this) _ _ _ w.drew hC H
  rw [show k + (l.length - k) = l.toArray.size by simp; omega] at this
  exact this

/-! Under a fence that lets all in. -/
variable {F : Fence} {n : Nat}
structure Lets (F : Fence) (n : Nat) (P : Program) : Prop where
  fn : ∀ f, F.fn f
  depth : F.depth = none
  calls : ∀ f args w R, Calls P f args w R → CallsIn F (n - 1) P f args w R
theorem lets_wide : Lets Fence.wide n P := ⟨fun _ => trivial, rfl, fun _ _ _ _ h => callsIn_wide.2 h⟩
theorem lets_round (l : Nat) : Lets (Fence.wide.inRound l) n P := ⟨fun _ => trivial, rfl, fun _ _ _ _ h => CallsIn.inRound l (callsIn_wide.2 h)⟩

theorem wpIn_of_quiet {o : Oper} {a : Act} {K : Act → Prop} {K' : Act → World → Prop} {Q' : Exit → Act → World → Prop} {w : World} (hF : Lets F n P) (hd : ∀ c, o.op ≠ .defer c) (hw : C w) (h : ∀ a w', C w' → K a → K' a w') (hh : o.quiet P a C K) : o.wpIn F n P a w K' Q' := by
  obtain ⟨v, h1, h2⟩ := hh
  have h3 := h1 w hw
  unfold Oper.quietAt at h3
  refine ⟨fun _ _ => hF.fn _, ?_⟩
  rw [Oper.semAt_eq _ _ _ hd]
  generalize (execOp a.eval o).run P w = r at *
  cases r with
  | ok x w' =>
    cases x <;> simp only [Oper.quietUpon] at h3 <;> simp only [Oper.uponIn]
    case value u =>
      obtain ⟨e1, e2⟩ := h3
      rw [e1, e2]
      exact h _ _ hw h2
    case skip =>
      obtain ⟨e1, e2⟩ := h3
      rw [e1, ← e2]
      exact h _ _ hw h2
    case enter f args =>
      obtain ⟨e1, hc⟩ := h3
      rw [e1]
      refine ⟨fun hs => (by rw [hF.depth] at hs; cases hs), ?_⟩
      refine CallsIn.mono (hF.calls _ _ _ _ hc) ?_
      rintro e w'' ⟨rfl, hw''⟩
      exact h _ _ hw'' h2
  | halt x w' => simp only [Oper.quietUpon] at h3

theorem wpOpIn_of_qOp {i : Nat} {a : Act} {K : Act → Prop} {K' : Act → World → Prop} {Q' : Exit → Act → World → Prop} {w : World} (hF : Lets F n P) (hd : ∀ (j : Nat) o, ops[j]? = some o → ∀ c, o.op ≠ .defer c) (hC : C w) (h : ∀ a w', C w' → K a → K' a w') (hh : qOp P ops C i K a) : wpOpIn F n P ops Q' i K' a w := by
  unfold qOp at hh
  unfold wpOpIn
  split
  · rename_i ho; simp only [ho] at hh; exact h _ _ hC hh
  · rename_i o ho
    simp only [ho] at hh
    split
    · rename_i hw; simp only [hw, if_true] at hh; exact wpIn_of_quiet hF (hd i o ho) hC h hh
    · rename_i hw; simp only [hw] at hh; exact ⟨fun _ _ => hF.fn _, h _ _ hC hh⟩

theorem anyIn_of_head {k g : Nat} {L : Array Bool → Act → Prop} {Q' : Exit → Act → World → Prop} (hF : Lets F n P) (hd : ∀ (j : Nat) o, ops[j]? = some o → ∀ c, o.op ≠ .defer c) (hL : ∀ listed a w, C w → L listed a → wpAnyIn F n P md ops Q' g listed a w) :
    ∀ (f : Nat) (listed : Array Bool) (a : Act) (w : World), C w → anyHead P md ops C k L f listed a → wpAnyIn F n P md ops Q' (f + g) listed a w
  | 0, listed, a, w, hw, h => by rw [Nat.zero_add]; exact hL _ _ _ hw h
  | f + 1, listed, a, w, hw, h => by
    rw [show f + 1 + g = (f + g) + 1 by omega]
    exact ⟨fun h0 => absurd h0 h.1, fun i hi => wpOpIn_of_qOp hF hd hw (fun a' w' hw' h' => anyIn_of_head hF hd hL f _ a' w' hw' h') (h.2 i hi).2⟩

theorem anyIn_of_seq {Q' : Exit → Act → World → Prop} : ∀ (l : List Oper) (k : Nat) (listed : Array Bool) (a : Act) (w : World), (∀ j, l[j]? = ops[k + j]?) →
    Region.seqB md ops l.length k listed = true → wpListIn F n P ops Q' l a w → wpAnyIn F n P md ops Q' l.length listed a w
  | [], _, _, _, _, _, hB, h => ⟨by simpa [Region.seqB] using hB, h⟩
  | o :: l, k, listed, a, w, hl, hB, h => by
    have h0 : ops[k]? = some o := by simpa using (hl 0).symm
    simp only [List.length_cons, Region.seqB, Bool.and_eq_true, decide_eq_true_eq] at hB
    refine ⟨fun h1 => (by rw [hB.1] at h1; cases h1), fun i hi => ?_⟩
    rw [hB.1] at hi
    have hik : i = k := by simpa using hi
    subst hik
    have hw : wpOpIn F n P ops Q' i (wpListIn F n P ops Q' l) a w := by unfold wpOpIn; simp only [h0]; exact h
    exact wpOpIn_mono (fun a' w' h' => anyIn_of_seq l (i + 1) _ a' w' (fun j => by have := hl (j + 1); simpa [Nat.add_assoc, Nat.add_comm 1 j] using this) hB.2 h') hw

def noDefer (l : List Oper) : Bool := l.all fun o => match o.op with | .defer _ => false | _ => true
theorem noDefer_spec {l : List Oper} (h : noDefer l = true) : ∀ (j : Nat) o, l.toArray[j]? = some o → ∀ c, o.op ≠ .defer c := by
  intro j o ho c e
  have hm : o ∈ l := by simpa using Array.mem_of_getElem? ho
  have := List.all_eq_true.1 h o hm
  simp [e] at this

theorem regionIn_class_tail {id : Nat} {Q : Exit → Act → World → Prop} {a : Act} {w : World} {l : List Oper} (C : World → Prop) (k : Nat) (hF : Lets F n P) (hm : P.follows .mixedOrders = true) (hd : noDefer l = true) (hB : Region.lexTailB .any l.toArray k = true) (hC : C w.drew)
    (h : wpQuiet P l.toArray C (fun a' => ∀ w', C w' → wpListIn F n P l.toArray Q (l.drop k) a' w') (l.take k) a) : (Code.region id l.toArray true).wpIn F n P Q a w := by
  obtain ⟨hn, H⟩ := head_all k hB h
  refine wpIn_region_any hm ?_
  have hdl : (l.drop k).length = l.length - k := by simp
  have := anyIn_of_head (Q' := Q) (g := l.length - k) hF (noDefer_spec hd) (fun listed a' w' hw' hL => by
    have := anyIn_of_seq (F := F) (n := n) (P := P) (md := .any) (Q' := Q) (l.drop k) k listed a' w' (fun j => by simp [List.getElem?_drop]) (by rw [hdl]; exact hL.1) (hL.2 w' hw')
    rwa [hdl] at this) _ _ _ w.drew hC H
  rw [show k + (l.length - k) = l.toArray.size by simp; omega] at this
  exact this
/-- All only read, or call within the class. -/
theorem regionIn_class {id : Nat} {Q : Exit → Act → World → Prop} {a : Act} {w : World} {l : List Oper} (C : World → Prop) (hF : Lets F n P) (hm : P.follows .mixedOrders = true) (hd : noDefer l = true) (hB : Region.lexB .any l.toArray = true) (hC : C w.drew)
    (h : wpQuiet P l.toArray C (fun a' => ∀ w', C w' → Q .normal a' w') l a) : (Code.region id l.toArray true).wpIn F n P Q a w := by
  refine wpIn_region_any hm ?_
  simp only [Region.lexB, Bool.and_eq_true] at hB
  have H := wpAnyQ_lex (P := P) (C := C) (md := .any) hB.1 l 0 (Array.replicate l.toArray.size false) a (by simp) (by simpa using hB.2) h
  have key : ∀ (fuel : Nat) (listed : Array Bool) (a : Act) (w : World), C w → wpAnyQ P .any l.toArray C (fun a' => ∀ w', C w' → Q .normal a' w') fuel listed a → wpAnyIn F n P .any l.toArray Q fuel listed a w := by
    intro fuel
    induction fuel with
    | zero => intro listed a w hw h; exact ⟨h.1, h.2 w hw⟩
    | succ fuel ih => intro listed a w hw h; exact ⟨fun h0 => h.1 h0 w hw, fun i hi => wpOpIn_of_qOp hF (noDefer_spec hd) hw (fun a' w' hw' h' => ih _ a' w' hw' h') (h.2 i hi)⟩
  refine key _ _ _ _ hC ?_
  simpa using H
end
end Go.Proofs.YtmoakgkoahjijaaGreatDoor

/- A region that draws its order: ahead of operation k the operations that only read (under a condition S) are taken first, the others are gone through as they may come up; from k on all go in one order. -/
set_option linter.unusedVariables false
set_option linter.unusedSimpArgs false
namespace Go.Proofs.YtmoakgkoahjijaaGreatDoor
open Go.RowKit

section
variable {P : Program} {ops : Array Oper} {Q : Exit → Act → World → Prop} {md : Region.Mode} {S : World → Prop}

def headH (P : Program) (md : Region.Mode) (ops : Array Oper) (Q : Exit → Act → World → Prop) (S : World → Prop) (k : Nat) (L : Array Bool → Act → World → Prop) : Nat → Array Bool → Act → World → Prop
  | 0, listed, a, w => L listed a w
  | f + 1, listed, a, w => Region.ready md ops listed ≠ [] ∧ ∀ i ∈ Region.ready md ops listed, i < k ∧ wpOp P ops Q i (fun a' w' => S w' ∧ headH P md ops Q S k L f (listed.setIfInBounds i true) a' w') a w

theorem any_of_headH {k g : Nat} {L : Array Bool → Act → World → Prop} (hL : ∀ listed a w, L listed a w → wpAny P md ops Q g listed a w) :
    ∀ (f : Nat) (listed : Array Bool) (a : Act) (w : World), headH P md ops Q S k L f listed a w → wpAny P md ops Q (f + g) listed a w
  | 0, listed, a, w, h => by rw [Nat.zero_add]; exact hL _ _ _ h
  | f + 1, listed, a, w, h => by
    rw [show f + 1 + g = (f + g) + 1 by omega]
    exact ⟨fun h0 => absurd h0 h.1, fun i hi => wpOp_mono (fun a' w' h' => any_of_headH hL f _ a' w' h'.2) (h.2 i hi).2⟩

theorem headH_first {n i : Nat} {oi : Oper} {v : Value} {L : Array Bool → Act → World → Prop} (hi : ops[i]? = some oi) (hsel : ∀ (j : Nat) (o : Oper) cs b, ops[j]? = some o → o.op ≠ .select cs b)
    (hs : Region.sinkB md ops n = true) (hc : Region.chainB md ops n = true) (hn : n < ops.size) (hin : i < n)
    (hdone : ∀ listed a w, L listed a w → ∀ j ∈ Region.ready md ops listed, n ≤ j) (hQ : ∀ c a w, Q (.panic c) (a.put oi.dst v) w → Q (.panic c) a w) :
    ∀ (f : Nat) (listed : Array Bool) (a : Act) (w : World), HeadInv md ops n listed →
      (∀ j oj, ops[j]? = some oj → j ≠ i → listed.getD j true = false → (∀ e ∈ oj.after, Region.binds md e = true → e.on ≠ i) → oi.apart ops oj = true) →
      i ∈ Region.ready md ops listed → YieldsIf P ops S oi v a → S w →
      headH P md ops Q S n L f (listed.setIfInBounds i true) (a.put oi.dst v) w → headH P md ops Q S n L (f + 1) listed a w := by
  intro f
  induction f with
  | zero =>
    intro listed a w inv _ hr hy hS H
    have hun := (mem_ready.1 hr).1
    refine ⟨fun h => (by rw [h] at hr; cases hr), fun j hj => ?_⟩
    have hjn : j < n := (Nat.lt_or_ge j n).elim id fun h => absurd hj (tail_waits hs hc hn inv _ i rfl hin hun j h)
    refine ⟨hjn, ?_⟩
    by_cases hji : j = i
    · subst hji; exact hy.wpOp hi hS ⟨hS, H⟩
    · have := hdone _ _ _ H j (ready_mono hj hji)
      omega
  | succ f ih =>
    intro listed a w inv hfree hr hy hS H
    have hun := (mem_ready.1 hr).1
    refine ⟨fun h => (by rw [h] at hr; cases hr), fun j hj => ?_⟩
    have hjn : j < n := (Nat.lt_or_ge j n).elim id fun h => absurd hj (tail_waits hs hc hn inv _ i rfl hin hun j h)
    refine ⟨hjn, ?_⟩
    by_cases hji : j = i
    · subst hji; exact hy.wpOp hi hS ⟨hS, H⟩
    · have h1 := (H.2 j (ready_mono hj hji)).2
      obtain ⟨hjun, oj, hoj, hall⟩ := mem_ready.1 hj
      have hnot : ∀ e ∈ oj.after, Region.binds md e = true → e.on ≠ i := fun e he hb heq => by
        have h1 := hall e he hb
        rw [heq, getD_both hun] at h1
        cases h1
      have h2 := wpOp_putIf hoj (hfree j oj hoj hji hjun hnot) (fun cs b => hsel i oi cs b hi) (fun cs b => hsel j oj cs b hoj) hQ hy h1
      have hfree' : ∀ k ok, ops[k]? = some ok → k ≠ i → (listed.setIfInBounds j true).getD k true = false →
          (∀ e ∈ ok.after, Region.binds md e = true → e.on ≠ i) → oi.apart ops ok = true := fun k ok hk hki hun hno => by
        refine hfree k ok hk hki ?_ hno
        by_cases hjk : j = k
        · subst hjk; exact hjun
        · rw [getD_set_ne true hjk] at hun; exact hun
      refine wpOp_mono (fun a' w' h3 => ⟨h3.2.1, ih (listed.setIfInBounds j true) a' w' (inv.set hj hjn) hfree' (ready_mono hr (Ne.symm hji)) h3.1 h3.2.1 ?_⟩) h2
      rw [Array.setIfInBounds_comm _ _ hji]
      exact h3.2.2

/-- The walk of the head: what floats is taken first, the rest comes up one by one. -/
inductive Pl where
  | float (i : Nat)
  | one (i : Nat)
/-- Is the plan in order? -/
def Pl.okB (md : Region.Mode) (ops : Array Oper) (k g : Nat) : List Pl → Array Bool → Bool
  | [], listed => Region.seqB md ops g k listed
  | .float i :: l, listed => decide (i < k) && (Region.ready md ops listed).contains i && Region.free md ops listed i && Pl.okB md ops k g l (listed.setIfInBounds i true)
  | .one i :: l, listed => decide (i < k) && decide (Region.ready md ops listed = [i]) && Pl.okB md ops k g l (listed.setIfInBounds i true)
/-- What is to be shown. -/
def Pl.wp (P : Program) (ops : Array Oper) (Q : Exit → Act → World → Prop) (S : World → Prop) (K : Act → World → Prop) : List Pl → Act → World → Prop
  | [], a, w => K a w
  | .float i :: l, a, w => match ops[i]? with
    | none => False
    | some o => ∃ v, YieldsIf P ops S o v a ∧ (∀ c a w, Q (.panic c) (a.put o.dst v) w → Q (.panic c) a w) ∧ Pl.wp P ops Q S K l (a.put o.dst v) w
  | .one i :: l, a, w => match ops[i]? with
    | none => False
    | some o => if Region.wanted o (yielded ops a.tmps) = true then Oper.wp P o a w (fun a' w' => S w' ∧ Pl.wp P ops Q S K l a' w') Q else S w ∧ Pl.wp P ops Q S K l (a.put o.dst undef) w

theorem Pl.head {n g : Nat} {K : Act → World → Prop} (hsel : Region.noSelect ops = true) (hs : Region.sinkB md ops n = true) (hc : Region.chainB md ops n = true) (hn : n < ops.size) :
    ∀ (l : List Pl) (listed : Array Bool) (a : Act) (w : World), HeadInv md ops n listed → Pl.okB md ops n g l listed = true → S w → Pl.wp P ops Q S K l a w →
      headH P md ops Q S n (fun listed' a' w' => Region.seqB md ops g n listed' = true ∧ K a' w') l.length listed a w
  | [], listed, a, w, inv, hB, hS, h => ⟨hB, h⟩
  | .float i :: l, listed, a, w, inv, hB, hS, h => by
    simp only [Pl.okB, Bool.and_eq_true, decide_eq_true_eq] at hB
    obtain ⟨⟨⟨hin, hr⟩, hf⟩, hB'⟩ := hB
    simp only [Pl.wp] at h
    have hr' : i ∈ Region.ready md ops listed := by simpa using hr
    cases ho : ops[i]? with
    | none => rw [ho] at h; exact h.elim
    | some o =>
      rw [ho] at h
      obtain ⟨v, hy, hQ, hK⟩ := h
      exact headH_first ho (Region.noSelect_spec hsel) hs hc hn hin (fun listed' a' w' hL => seqB_ready hL.1) hQ l.length listed a w inv (Region.free_spec ho hf) hr' hy hS
        (Pl.head hsel hs hc hn l _ _ _ (inv.set hr' hin) hB' hS hK)
  | .one i :: l, listed, a, w, inv, hB, hS, h => by
    simp only [Pl.okB, Bool.and_eq_true, decide_eq_true_eq] at hB
    obtain ⟨⟨hin, hr⟩, hB'⟩ := hB
    simp only [Pl.wp] at h
    have hr' : i ∈ Region.ready md ops listed := by rw [hr]; exact List.mem_singleton.2 rfl
    refine ⟨by rw [hr]; simp, fun j hj => ?_⟩
    rw [hr] at hj
    obtain rfl := List.mem_singleton.1 hj
    refine ⟨hin, ?_⟩
    unfold wpOp
    cases ho : ops[j]? with
    | none => rw [ho] at h; exact h.elim
    | some o =>
      rw [ho] at h
      simp only at h ⊢
      split
      · rename_i hw
        rw [if_pos hw] at h
        exact .inl (Oper.wp_mono (fun a' w' h' => ⟨h'.1, Pl.head hsel hs hc hn l _ _ _ (inv.set hr' hin) hB' h'.1 h'.2⟩) h)
      · rename_i hw
        rw [if_neg hw] at h
        exact ⟨h.1, Pl.head hsel hs hc hn l _ _ _ (inv.set hr' hin) hB' h.1 h.2⟩

def Pl.allB (ops : Array Oper) (k : Nat) (l : List Pl) : Bool :=
  Region.noSelect ops && decide (k < ops.size) && Region.sinkB .any ops k && Region.chainB .any ops k && decide (l.length = k) && Pl.okB .any ops k (ops.size - k) l (Array.replicate ops.size false)

theorem any_float {a : Act} {w : World} {l : List Oper} (S : World → Prop) (k : Nat) (pl : List Pl) (hB : Pl.allB l.toArray k pl = true) (hS : S w)
    (h : Pl.wp P l.toArray Q S (fun a' w' => wpList P l.toArray Q (l.drop k) a' w') pl a w) : wpAny P .any l.toArray Q l.toArray.size (Array.replicate l.toArray.size false) a w := by
  simp only [Pl.allB, Bool.and_eq_true, decide_eq_true_eq] at hB
  obtain ⟨⟨⟨⟨⟨hsel, hn⟩, hs⟩, hc⟩, hl⟩, hok⟩ := hB
  have hn' : k < l.length := by simpa using hn
  have hdl : (l.drop k).length = l.length - k := by simp
  have inv0 : HeadInv .any l.toArray k (Array.replicate l.toArray.size false) :=
    ⟨by simp, fun j oj _ hl => (by rw [getD_replicate_false] at hl; cases hl), fun t _ ht => getD_in (by simpa using ht) (getD_replicate_false _ _)⟩
  have H := Pl.head (P := P) (Q := Q) (S := S) hsel hs hc hn pl _ a w inv0 hok hS h
  have := any_of_headH (g := l.length - k) (fun listed a' w' hL => by
    have := wpAny_of_seq (P := P) (md := .any) (Q' := Q) (l.drop k) k listed a' w' (fun j => by simp [List.getElem?_drop]) (by rw [hdl]; simpa using hL.1) hL.2
    rwa [hdl] at this) _ _ _ _ H
  rw [hl, show k + (l.length - k) = l.toArray.size by simp; omega] at this
  exact this

theorem Pl.wp_one {K : Act → World → Prop} {i : Nat} {l : List Pl} {a : Act} {w : World} {o : Oper} (ho : ops[i]? = some o) (hg : o.guard = none) (h : Oper.wp P o a w (fun a' w' => S w' ∧ Pl.wp P ops Q S K l a' w') Q) : Pl.wp P ops Q S K (.one i :: l) a w := by
  simp only [Pl.wp, ho]
  rw [if_pos (by simp [Region.wanted, hg])]
  exact h
theorem Pl.wp_value {K : Act → World → Prop} {i : Nat} {l : List Pl} {a : Act} {w : World} {o : Oper} (ho : ops[i]? = some o) (hg : o.guard = none) (v : Value) (w1 : World) (hr : (execOp a.eval o).run P w = .ok (.value v) w1) (hS : S w1) (h : Pl.wp P ops Q S K l (a.put o.dst v) w1) : Pl.wp P ops Q S K (.one i :: l) a w := by
  refine Pl.wp_one ho hg ?_
  unfold Oper.wp
  rw [hr]
  exact ⟨hS, h⟩
theorem Pl.wp_skip {K : Act → World → Prop} {i : Nat} {l : List Pl} {a : Act} {w : World} {o : Oper} (ho : ops[i]? = some o) (hg : o.guard = none) (w1 : World) (hr : (execOp a.eval o).run P w = .ok .skip w1) (hS : S w1) (h : Pl.wp P ops Q S K l (a.put o.dst undef) w1) : Pl.wp P ops Q S K (.one i :: l) a w := by
  refine Pl.wp_one ho hg ?_
  unfold Oper.wp
  rw [hr]
  exact ⟨hS, h⟩
theorem Pl.wp_float {K : Act → World → Prop} {i : Nat} {l : List Pl} {a : Act} {w : World} {o : Oper} (ho : ops[i]? = some o) (hg : o.guard = none) (v : Value) (hv : ∀ U, S U → (execOp a.eval o).run P U = .ok (.value v) U)
    (hQ : ∀ c a w, Q (.panic c) (a.put o.dst v) w → Q (.panic c) a w) (h : Pl.wp P ops Q S K l (a.put o.dst v) w) : Pl.wp P ops Q S K (.float i :: l) a w := by
  simp only [Pl.wp, ho]
  exact ⟨v, .inl ⟨by simp [Region.wanted, hg], hv⟩, hQ, h⟩
/-- Plainly. -/
theorem region_float {id : Nat} {a : Act} {w : World} {l : List Oper} (S : World → Prop) (k : Nat) (pl : List Pl) (hm : P.follows .mixedOrders = true) (hB : Pl.allB l.toArray k pl = true) (hS : S w.drew)
    (h : Pl.wp P l.toArray Q S (fun a' w' => wpList P l.toArray Q (l.drop k) a' w') pl a w.drew) : (Code.region id l.toArray true).wp P Q a w :=
  wp_region_any hm (any_float S k pl hB hS h)

/-! Under a fence that lets all in. -/
variable {F : Fence} {n : Nat}
structure LetsR (F : Fence) (n : Nat) (P : Program) : Prop extends Lets F n P where
  rows : ∀ row args w R, Rows P row args w R → RowsIn F (n - 1) P row args w R
theorem letsR_wide : LetsR Fence.wide n P := { lets_wide with rows := fun _ _ _ _ h => fun c cs _ => let ⟨v, w', r, s⟩ := h c cs; ⟨v, w', r, stepsIn_wide.2 s⟩ }
theorem letsR_round (l : Nat) : LetsR (Fence.wide.inRound l) n P := { lets_round l with rows := fun _ _ _ _ h => fun c cs _ => let ⟨v, w', r, s⟩ := h c cs; ⟨v, w', r, stepsIn_wide.2 s⟩ }
theorem opIn_of_wp {o : Oper} {a : Act} {w : World} {K K' : Act → World → Prop} (hF : LetsR F n P) (hd : ∀ c, o.op ≠ .defer c) (h : ∀ a w, K a w → K' a w) (hh : o.wp P a w K Q) : o.wpIn F n P a w K' Q := by
  unfold Oper.wp at hh
  refine ⟨fun _ _ => hF.fn _, ?_⟩
  rw [Oper.semAt_eq _ _ _ hd]
  generalize (execOp a.eval o).run P w = r at *
  cases r with
  | ok x w' =>
    cases x <;> simp only [Oper.upon] at hh <;> simp only [Oper.uponIn]
    case enter f args =>
      refine ⟨fun h => (by rw [hF.depth] at h; cases h), hF.calls _ _ _ _ (hh.mono fun e w'' he => ?_)⟩
      cases e <;> first | exact h _ _ he | exact he
    case row row args => exact ⟨fun h => (by rw [hF.depth] at h; cases h), hF.rows _ _ _ _ (hh.mono fun v w'' hk => h _ _ hk)⟩
    all_goals first | exact h _ _ hh | exact hh
  | halt x w' => cases x <;> simp only [Oper.upon] at hh <;> simp only [Oper.uponIn] <;> exact hh
theorem wpOpIn_of_wpOp {i : Nat} {a : Act} {w : World} {K K' : Act → World → Prop} (hF : LetsR F n P) (hd : ∀ (j : Nat) o, ops[j]? = some o → ∀ c, o.op ≠ .defer c) (hQ : ¬ LetsOut Q) (h : ∀ a w, K a w → K' a w) (hh : wpOp P ops Q i K a w) : wpOpIn F n P ops Q i K' a w := by
  unfold wpOp at hh
  unfold wpOpIn
  split
  · rename_i ho; simp only [ho] at hh; exact h _ _ hh
  · rename_i o ho
    simp only [ho] at hh
    split
    · rename_i hw
      simp only [hw, if_true] at hh
      rcases hh with hh | ⟨_, hh⟩
      · exact opIn_of_wp hF (hd i o ho) h hh
      · exact absurd hh hQ
    · rename_i hw
      simp only [hw] at hh
      exact ⟨fun _ _ => hF.fn _, h _ _ hh⟩
theorem anyIn_of_any (hF : LetsR F n P) (hd : ∀ (j : Nat) o, ops[j]? = some o → ∀ c, o.op ≠ .defer c) (hQ : ¬ LetsOut Q) : ∀ (fuel : Nat) (listed : Array Bool) (a : Act) (w : World), wpAny P md ops Q fuel listed a w → wpAnyIn F n P md ops Q fuel listed a w
  | 0, _, _, _, h => h
  | fuel + 1, _, _, _, h => ⟨h.1, fun i hi => wpOpIn_of_wpOp hF hd hQ (fun a' w' => anyIn_of_any hF hd hQ fuel _ a' w') (h.2 i hi)⟩
theorem regionIn_of_any {id : Nat} {a : Act} {w : World} {l0 : List Oper} (hF : LetsR F n P) (hm : P.follows .mixedOrders = true) (hd : noDefer l0 = true) (hQ : ¬ LetsOut Q)
    (h : wpAny P .any l0.toArray Q l0.toArray.size (Array.replicate l0.toArray.size false) a w.drew) : (Code.region id l0.toArray true).wpIn F n P Q a w :=
  wpIn_region_any hm (anyIn_of_any hF (noDefer_spec hd) hQ _ _ _ _ h)
/-- Nothing but the end of the region. -/
def nq (Q : Exit → Act → World → Prop) : Exit → Act → World → Prop
  | .normal, a, w => Q .normal a w
  | _, _, _ => False
theorem regionIn_float {id : Nat} {a : Act} {w : World} {l : List Oper} (S : World → Prop) (k : Nat) (pl : List Pl) (hF : LetsR F n P) (hm : P.follows .mixedOrders = true) (hd : noDefer l = true) (hB : Pl.allB l.toArray k pl = true) (hS : S w.drew)
    (h : ∀ K : Act → World → Prop, (∀ a w, Q .normal a w → K a w) → Pl.wp P l.toArray (nq Q) S (fun a' w' => wpList P l.toArray (nq fun _ => K) (l.drop k) a' w') pl a w.drew) : (Code.region id l.toArray true).wpIn F n P Q a w := by
  refine wpIn_mono (regionIn_of_any (Q := nq Q) hF hm hd (fun ⟨_, _, h⟩ => h) (any_float S k pl hB hS ?_)) (fun e a w h => by cases e <;> first | exact h | exact h.elim)
  exact h (fun a w => Q .normal a w) (fun _ _ h => h)
end
end Go.Proofs.YtmoakgkoahjijaaGreatDoor

/- A book of bytes: the marks; one more list is kept. -/
set_option linter.unusedVariables false
set_option linter.unusedSimpArgs false
namespace Go.Proofs.YtmoakgkoahjijaaGreatDoor
open Go.RowKit

theorem aside' {p : Prop} (h : p) : Aside p := h
theorem flat3_at (ps : List (Value × Value)) (j : Nat) (p : Value × Value) (h : ps[j]? = some p) : (flat3 0 ps)[j * 3]? = some p.1 ∧ (flat3 0 ps)[j * 3 + 1]? = some p.2 ∧ (flat3 0 ps)[j * 3 + 2]? = some (.int .i64 ((j : Int) + 1)) := by
  have h1 := flat3_get ps 0 j p h
  rw [show (((0 : Nat) : Int) + (j : Int) + 1) = (j : Int) + 1 by omega] at h1
  exact h1
theorem mark_any (i : Nat) (hi : i ≤ 1000000000000) (W : World) : Calls Tryz.prog 147 #[.int .i64 ((i : Int) + 1)] W fun e w' => e = .returned (.int .u8 (mark i)) ∧ w' = W := by
  obtain ⟨r, hr⟩ : ∃ r, r = (i + 1) % 250 := ⟨_, rfl⟩
  have hb : r < 250 := by omega
  have m1 : ((i : Int) + 1) % 250 = (r : Int) := by omega
  have m2 : ((i : Int) + 1).tmod 250 = (r : Int) := by rw [Int.tmod_eq_emod_of_nonneg (by omega)]; exact m1
  have HM := aside' (show mark i = 1 + (r : Int) by rw [mark, hr])
  clear hr
  go_enter Tryz.func147, Tryz.ntmps147
  go_wp2
  go_ret
  exact ⟨by rw [HM.out]; rfl, rfl⟩
theorem is_any (i : Nat) (hi : i ≤ 1000000000000) (W : World) : Calls Tryz.prog 177 #[.int .u8 (mark i), .int .i64 ((i : Int) + 1)] W fun e w' => e = .returned (.bool true) ∧ w' = W := by
  obtain ⟨r, hr⟩ : ∃ r, r = (i + 1) % 250 := ⟨_, rfl⟩
  have hb : r < 250 := by omega
  have m1 : ((i : Int) + 1) % 250 = (r : Int) := by omega
  have m2 : ((i : Int) + 1).tmod 250 = (r : Int) := by rw [Int.tmod_eq_emod_of_nonneg (by omega)]; exact m1
  have HM : mark i = 1 + (r : Int) := by rw [mark, hr]
  rw [HM]
  clear hr HM
  go_enter Tryz.func177, Tryz.ntmps177
  go_wp2
  go_ret
  exact ⟨rfl, rfl⟩
theorem infoHB : (Tryz.prog.info? 118).map (fun i => (i.zero, i.size, i.bytes)) = some (some (.agg #[.slice none 0 0, .slice none 0 0, .int .i64 0]), 3, 56) := by kernel_rfl
theorem infoBY : (Tryz.prog.info? 5).map (fun i => (i.zero, i.size, i.bytes)) = some (some (.int .u8 0), 1, 1) := by kernel_rfl
/-- What is there when one more list is kept. -/
def Kept (base b : Nat) (row v : Value) (ps : List (Value × Value)) (F : Nat → Nat → Prop) (Fv : Nat → Prop) (W : World) (e : Ending) (w' : World) : Prop :=
  (∃ u, e = .returned u) ∧ ∃ row', Bk w' base b row' (ps ++ [(v, .slice none 0 0)]) (fun i k => F i k ∨ (i = ps.length ∧ Fv k)) ∧ Foot (fun k => k = b ∨ row.ownBlock = some k) W w' ∧ ∀ k, row'.ownBlock = some k → row.ownBlock = some k ∨ W.heap.size ≤ k
theorem kept_of {W w1 : World} {base b : Nat} {row v v1 : Value} {ps : List (Value × Value)} {F : Nat → Nat → Prop} {Fv : Nat → Prop} {o : Obj} (h : Bk W base b row ps F)
    (h1 : ∀ k, Fv k → base ≤ k ∧ k < W.heap.size ∧ k ≠ b ∧ row.ownBlock ≠ some k) (h2 : ∀ i k, F i k → ¬ Fv k)
    (hown : w1.ownsRow base 118 3 v1 (ps.length + 1) (flat3 0 ps ++ [v, .slice none 0 0, .int .i64 ((ps.length : Int) + 1)]))
    (hg : ((W.setCell ⟨b, 0, none⟩ (.int .i64 ((ps.length : Int) + 1))).alloc o).grownBy w1 row.ownBlock) (hat : v1.ownBlock = row.ownBlock ∨ v1.ownBlock = some (W.heap.size + 1)) :
    ∃ row', Bk (w1.setCell ⟨b, 2, none⟩ v1) base b row' (ps ++ [(v, .slice none 0 0)]) (fun i k => F i k ∨ (i = ps.length ∧ Fv k)) ∧ Foot (fun k => k = b ∨ row.ownBlock = some k) W (w1.setCell ⟨b, 2, none⟩ v1) ∧ ∀ k, row'.ownBlock = some k → row.ownBlock = some k ∨ W.heap.size ≤ k := by
  have hblt : b < W.heap.size := (Array.getElem?_eq_some_iff.1 h.hb).1
  have hs0 : (W.setCell ⟨b, 0, none⟩ (.int .i64 ((ps.length : Int) + 1))).heap.size = W.heap.size := by simp [World.setCell]
  have hb1 := setCell_heap h.hb 0 (.int .i64 ((ps.length : Int) + 1))
  have hb2 := (Below.heap_alloc _ o b (by rw [hs0]; exact hblt)).trans hb1
  have hb3 := (hg.block b (by simp; omega) (fun e => h.rb e.symm)).trans hb2
  have hv1 : ∀ k, v1.ownBlock = some k → row.ownBlock = some k ∨ k = W.heap.size + 1 := by
    intro k hk
    rcases hat with e | e
    · exact .inl (e.symm.trans hk)
    · rw [e] at hk; injection hk with hk; exact .inr hk.symm
  have hvb : v1.ownBlock ≠ some b := fun e => by
    rcases hv1 b e with e' | e'
    · exact h.rb e'
    · omega
  have hft : Foot (fun k => k = b ∨ row.ownBlock = some k) W (w1.setCell ⟨b, 2, none⟩ v1) :=
    ((((Foot.refl _ W).setCell (p := ⟨b, 0, none⟩) (.inl (.inl rfl)) _).alloc o).grown hg (fun k hk => .inl (.inr hk))).setCell (p := ⟨b, 2, none⟩) (.inl (.inl rfl)) _
  have hsz : W.heap.size ≤ (w1.setCell ⟨b, 2, none⟩ v1).heap.size := hft.size
  have he : flat3 0 (ps ++ [(v, .slice none 0 0)]) = flat3 0 ps ++ [v, .slice none 0 0, .int .i64 ((ps.length : Int) + 1)] := by
    rw [flat3_append]
    simp [flat3]
  refine ⟨v1, ⟨?_, ?_, hvb, h.bb, ?_, ?_⟩, hft, fun k hk => (hv1 k hk).imp id (fun e => by omega)⟩
  · rw [setCell_heap hb3 2 v1]
    simp [bookCells]
  · rw [he, List.length_append, List.length_singleton]
    exact own_foot hown ((Foot.refl (fun k => k = b) w1).setCell (p := ⟨b, 2, none⟩) (.inl rfl) v1) (fun k hk e => hvb (e ▸ hk))
  · intro i k hk
    have hx : base ≤ k ∧ k < W.heap.size ∧ k ≠ b ∧ row.ownBlock ≠ some k := by
      rcases hk with hk | ⟨_, hk⟩
      · exact h.fl i k hk
      · exact h1 k hk
    refine ⟨hx.1, by omega, hx.2.2.1, fun e => ?_⟩
    rcases hv1 k e with e' | e'
    · exact hx.2.2.2 e'
    · omega
  · intro i j k hi hj
    rcases hi with hi | ⟨ei, hi⟩ <;> rcases hj with hj | ⟨ej, hj⟩
    · exact h.fd i j k hi hj
    · exact absurd hj (h2 i k hi)
    · exact absurd hi (h2 j k hj)
    · omega
set_option maxRecDepth 100000 in
set_option maxHeartbeats 1600000 in
theorem keep_any (base b : Nat) (row : Value) (ps : List (Value × Value)) (F : Nat → Nat → Prop) (A : Option Addr) (n c : Nat) (Fv : Nat → Prop) (W : World) (h : Bk W base b row ps F) (hN : ps.length ≤ 1000000000)
    (h1 : ∀ k, Fv k → base ≤ k ∧ k < W.heap.size ∧ k ≠ b ∧ row.ownBlock ≠ some k) (h2 : ∀ i k, F i k → ¬ Fv k) :
    Calls Tryz.prog 44 #[.pointer (some ⟨b, 0, none⟩), .slice A n c] W (Kept base b row (.slice A n c) ps F Fv W) := by
  have hbs : base ≤ W.heap.size := Nat.le_of_lt (Nat.lt_of_le_of_lt h.bb (Array.getElem?_eq_some_iff.1 h.hb).1)
  have c0 : W.cell? ⟨b, 0, none⟩ = some (.int .i64 (ps.length : Int)) := cellOf h.hb 0
  have f0 := frozenOf h.hb 0
  obtain ⟨Ar, Lr, cr, rfl, HLr⟩ := own_form h.hr
  have hLr := HLr.out
  subst hLr
  have hb1 := setCell_heap h.hb 0 (.int .i64 ((ps.length : Int) + 1))
  have c2 : (W.setCell ⟨b, 0, none⟩ (.int .i64 ((ps.length : Int) + 1))).cell? ⟨b, 2, none⟩ = some (.slice Ar ps.length cr) := (cellOf hb1 2).trans rfl
  have c3 : (W.setCell ⟨b, 0, none⟩ (.int .i64 ((ps.length : Int) + 1))).cell? ⟨b, 0, none⟩ = some (.int .i64 ((ps.length : Int) + 1)) := (cellOf hb1 0).trans rfl
  have HR1 := aside' (own_foot h.hr ((Foot.refl (fun k => k = b) W).setCell (p := ⟨b, 0, none⟩) (.inl rfl) (.int .i64 ((ps.length : Int) + 1))) (fun k hk e => h.rb (e ▸ hk)))
  have HB1 := aside' hb1
  have H := aside' (And.intro h (And.intro h1 h2))
  have hsz : (W.setCell ⟨b, 0, none⟩ (.int .i64 ((ps.length : Int) + 1))).heap.size = W.heap.size := by simp [World.setCell]
  clear h h1 h2 hb1 HLr
  go_enter Tryz.func44, Tryz.ntmps44
  go_wp2_with fail
  generalize hW1 : W.setCell ⟨b, 0, none⟩ (.int .i64 ((ps.length : Int) + 1)) = W1 at *
  have HC := aside' (Cells.lit W1 118 #[.slice A n c, .slice none 0 0, .int .i64 ((ps.length : Int) + 1)] 1 3 rfl (by intro u hu; simp at hu; rcases hu with rfl | rfl | rfl <;> rfl))
  rw [hsz] at HC
  have hblt : b < W1.heap.size := (Array.getElem?_eq_some_iff.1 HB1.out).1
  have HO := aside' (HR1.out.alloc (.cells #[.slice A n c, .slice none 0 0, .int .i64 ((ps.length : Int) + 1)] 118))
  have HS := aside' (show base ≤ (W1.drew.alloc (.cells #[.slice A n c, .slice none 0 0, .int .i64 ((ps.length : Int) + 1)] 118)).heap.size by simp; omega)
  have ca : (W1.alloc (.cells #[.slice A n c, .slice none 0 0, .int .i64 ((ps.length : Int) + 1)] 118)).drew.cell? ⟨b, 2, none⟩ = some (.slice Ar ps.length cr) := (((Below.refl W1.heap.size W1).alloc (Nat.le_refl _) _).cell (p := ⟨b, 2, none⟩) hblt).trans c2
  have cb : (W1.drew.alloc (.cells #[.slice A n c, .slice none 0 0, .int .i64 ((ps.length : Int) + 1)] 118)).cell? ⟨b, 2, none⟩ = some (.slice Ar ps.length cr) := ca
  have cc : (W1.alloc (.cells #[.slice A n c, .slice none 0 0, .int .i64 ((ps.length : Int) + 1)] 118)).cell? ⟨b, 2, none⟩ = some (.slice Ar ps.length cr) := ca
  go_region_law ((refine step_append_cells base (by rfl) _ _ 31 118 (.agg #[.slice none 0 0, .slice none 0 0, .int .i64 0]) 3 56 (by rfl) Tryz.underlying31 infoHB (by rfl) (by omega) (by omega) (.slice Ar ps.length cr) ps.length (flat3 0 ps) [.slice A n c, .slice none 0 0, .int .i64 ((ps.length : Int) + 1)] _ 1 1 (by rfl) (by rfl) (by exact HO.out) (by exact HC.out) (by exact HS.out) (by omega) ?_; intro v1 w1 hown1 hg1 hat1; obtain ⟨g1, k1, rfl, hgb, hgs, _, _⟩ := own_some hown1 (by omega); have hbk := (hg1.block b (by simp; omega) (fun e => H.out.1.rb e.symm)).trans ((Below.heap_alloc W1 (.cells #[.slice A n c, .slice none 0 0, .int .i64 ((ps.length : Int) + 1)] 118) b hblt).trans HB1.out); have HBK := aside' hbk; have kA : w1.cell? ⟨b, 2, none⟩ = some (.slice Ar ps.length cr) := (cellOf hbk 2).trans rfl; have kf := frozenOf hbk 2; have HG1 := aside' (And.intro hown1 (And.intro hg1 hat1)); clear hbk))
  all_goals go_end0
  all_goals (
    obtain ⟨row', hk1, hk2, hk3⟩ := kept_of (v := .slice A n c) (o := .cells #[.slice A n c, .slice none 0 0, .int .i64 ((ps.length : Int) + 1)] 118) H.out.1 H.out.2.1 H.out.2.2 HG1.out.1 (by rw [hW1]; exact ⟨HG1.out.2.1.os, HG1.out.2.1.tape, HG1.out.2.1.output, HG1.out.2.1.size, HG1.out.2.1.block⟩) (HG1.out.2.2.imp id (fun h => h.trans (by show some (W1.alloc (.cells #[.slice A n c, .slice none 0 0, .int .i64 ((ps.length : Int) + 1)] 118)).heap.size = _; rw [World.size_alloc, hsz])))
    exact ⟨⟨_, rfl⟩, row', hk1, hk2, hk3⟩)
end Go.Proofs.YtmoakgkoahjijaaGreatDoor

/- A twin of numbers, with a spare one behind it. -/
set_option linter.unusedVariables false
set_option linter.unusedSimpArgs false
namespace Go.Proofs.YtmoakgkoahjijaaGreatDoor
open Go.RowKit

theorem make0_num (m : Nat) (h : m ≤ 1048577) : ∀ W : World, (Instr.makeSlice 22 (.int .i64 0) (.int .i64 (m : Int))).run Tryz.prog W = .ok (.slice (some ⟨W.heap.size, 0, none⟩) 0 m) (W.alloc (.cells (madeCells #[.int .i64 0, .int .u64 0, .int .u64 0] (m * 3)) 79)) := by
  intro W
  obtain ⟨i, hi, hzz⟩ := Option.map_eq_some_iff.1 infoBits
  simp only [Prod.mk.injEq] at hzz
  obtain ⟨hz, hs, hb⟩ := hzz
  have := run_make (P := Tryz.prog) W 22 79 i _ Tryz.underlying22 hi hz .i64 .i64 0 m (by omega) (by omega) (by rw [hb]; omega) (by omega)
  rw [hs] at this
  simpa [Value.cells] using this
/-- A twin of numbers: memory of its own, a spare one behind it. -/
def TwinN (w : World) (g k n : Nat) (xs : List Num) : Prop :=
  n + 1 ≤ k ∧ ReadsNums w (some ⟨g, 0, none⟩) n xs ∧ (w.cell? ⟨g, n * 3, none⟩ = some (.int .i64 77) ∧ w.cell? ⟨g, n * 3 + 1, none⟩ = some (.int .u64 0) ∧ w.cell? ⟨g, n * 3 + 2, none⟩ = some (.int .u64 0)) ∧ k ≤ 9223372036854775807
theorem TwinN.of_own {w : World} {base n : Nat} {v : Value} {xs : List Num} (hl : xs.length = n) (h : w.ownsRow base 79 3 v (n + 1) (numsV (xs ++ [(⟨77, 0, 0⟩ : Num)]))) :
    ∃ g k, v = .slice (some ⟨g, 0, none⟩) (n + 1) k ∧ base ≤ g ∧ g < w.heap.size ∧ TwinN w g k n xs := by
  rcases h.2 with ⟨_, h0⟩ | ⟨g, cap, cur, rfl, hg, hh, hnc, hcm, hcs, ht⟩
  · omega
  · have hl1 : (xs ++ [(⟨77, 0, 0⟩ : Num)]).length = n + 1 := by simp [hl]
    have hcell : ∀ j, j < n + 1 → w.cell? ⟨g, j * 3, none⟩ = some (.int .i64 ((xs ++ [(⟨77, 0, 0⟩ : Num)]).getD j zeroNum).W) ∧ w.cell? ⟨g, j * 3 + 1, none⟩ = some (.int .u64 ((xs ++ [(⟨77, 0, 0⟩ : Num)]).getD j zeroNum).Hi) ∧ w.cell? ⟨g, j * 3 + 2, none⟩ = some (.int .u64 ((xs ++ [(⟨77, 0, 0⟩ : Num)]).getD j zeroNum).Lo) := by
      intro j hj
      obtain ⟨c0, c1, c2⟩ := numsV_get (xs ++ [(⟨77, 0, 0⟩ : Num)]) j (by omega)
      have k : ∀ (i : Nat) (v : Value), (numsV (xs ++ [(⟨77, 0, 0⟩ : Num)]))[i]? = some v → w.cell? ⟨g, i, none⟩ = some v := fun i v hv => by
        have := h.cells (g := g) rfl i v hv
        rwa [add_plain] at this
      exact ⟨k _ _ c0, k _ _ c1, k _ _ c2⟩
    have hmax : cap ≤ 9223372036854775807 := by simpa [maxLen] using hcm
    refine ⟨g, cap, rfl, hg, (Array.getElem?_eq_some_iff.1 hh).1, hnc, ⟨hl, by omega, fun _ => ⟨g, 0, rfl, (Array.getElem?_eq_some_iff.1 hh).1, fun j hj => ?_⟩⟩, ?_, hmax⟩
    · have hc := hcell j (by omega)
      have e : (xs ++ [(⟨77, 0, 0⟩ : Num)]).getD j zeroNum = xs.getD j zeroNum := by
        rw [List.getD_eq_getElem?_getD, List.getD_eq_getElem?_getD, List.getElem?_append_left (by omega)]
      rw [e] at hc
      rw [Nat.zero_add, Nat.zero_add, Nat.zero_add]
      exact hc
    · have hc := hcell n (by omega)
      have e : (xs ++ [(⟨77, 0, 0⟩ : Num)]).getD n zeroNum = ⟨77, 0, 0⟩ := by
        rw [List.getD_eq_getElem?_getD, List.getElem?_append_right (by omega)]
        simp [hl]
      rw [e] at hc
      exact hc
theorem TwinN.below {w w' : World} {g k n : Nat} {xs : List Num} (h : TwinN w g k n xs) (hg : g < w.heap.size) (hb : Below w.heap.size w w') : TwinN w' g k n xs :=
  ⟨h.1, h.2.1.below hb, ⟨(hb.cell (p := ⟨g, n * 3, none⟩) hg).trans h.2.2.1.1, (hb.cell (p := ⟨g, n * 3 + 1, none⟩) hg).trans h.2.2.1.2.1, (hb.cell (p := ⟨g, n * 3 + 2, none⟩) hg).trans h.2.2.1.2.2⟩, h.2.2.2⟩
theorem numsV_snoc (l : List Num) (x : Num) : numsV (l ++ [x]) = numsV l ++ [.int .i64 x.W, .int .u64 x.Hi, .int .u64 x.Lo] := by rw [numsV_append, numsV_one]
theorem own_snoc {w : World} {base m : Nat} {v : Value} {xs : List Num} {x : Num} (h : w.ownsRow base 79 3 v m (numsV xs ++ [.int .i64 x.W, .int .u64 x.Hi, .int .u64 x.Lo])) : w.ownsRow base 79 3 v m (numsV (xs ++ [x])) := by rw [numsV_snoc]; exact h
set_option maxHeartbeats 1600000 in
set_option maxRecDepth 100000 in
theorem twinN_any (A : Option Addr) (n c : Nat) (xs : List Num) (w : World) (HR : ReadsNums w A n xs) (hn : n ≤ 1048576) :
    Calls Tryz.prog 6 #[.slice A n c] w fun e w' => ∃ g k, e = .returned (.slice (some ⟨g, 0, none⟩) n k) ∧ w.heap.size ≤ g ∧ g < w'.heap.size ∧ TwinN w' g k n xs ∧ Below w.heap.size w w' := by
  have HA := aside' HR
  have hmk := make0_num (n + 1) (by omega)
  have hc1 : ((n + 1 : Nat) : Int) = (n : Int) + 1 := by omega
  rw [hc1] at hmk
  clear HR
  have HO := aside' (World.ownsRow_made (base := w.heap.size) (e := 79) (size := 3) w (madeCells #[.int .i64 0, .int .u64 0, .int .u64 0] ((n + 1) * 3)) (n + 1) (Nat.le_refl _) (by simp [maxLen]; omega) (by simp [size_madeCells]))
  have hB0 : Below w.heap.size w (w.alloc (.cells (madeCells #[.int .i64 0, .int .u64 0, .int .u64 0] ((n + 1) * 3)) 79)) := (Below.refl _ _).alloc (Nat.le_refl _) _
  go_enter Tryz.func6, Tryz.ntmps6
  go_wp2
  go_loopw [3, 4] (fun v i wr => ∃ k : Nat, k ≤ n ∧ i = .int .i64 k ∧ Aside (wr.ownsRow w.heap.size 79 3 v k (numsV (xs.take k))) ∧ Below w.heap.size w wr) (fun _ i _ => n - (intOf i).toNat)
  case atStart => exact ⟨0, Nat.zero_le _, rfl, by simpa [numsV] using HO, hB0⟩
  case round =>
    obtain ⟨k, hk, rfl, hO, hB⟩ := hrel
    have hsz := hB.size
    obtain ⟨D, L, d, rfl, HL⟩ := own_form hO.out
    by_cases hlt : k < n
    · obtain ⟨b, off, rfl, hbs, hcells⟩ := (HA.out.below hB).2.2 (by omega)
      obtain ⟨q0, q1, q2⟩ := hcells k hlt
      rw [← Nat.add_assoc] at q1 q2
      have HSN := aside' (show numsV (xs.take (k + 1)) = numsV (xs.take k) ++ [.int .i64 (xs.getD k zeroNum).W, .int .u64 (xs.getD k zeroNum).Hi, .int .u64 (xs.getD k zeroNum).Lo] by
        rw [List.take_succ_eq_append_getElem (by rw [HA.out.1]; exact hlt), numsV_snoc]
        simp [List.getD_eq_getElem?_getD, List.getElem?_eq_getElem (show k < xs.length by rw [HA.out.1]; exact hlt)])
      generalize xs.getD k zeroNum = x at *
      obtain ⟨xW, xH, xL⟩ := x
      simp only at q0 q1 q2
      clear hcells
      have i0 : (0 : Int) ≤ (k : Int) := by omega
      have i1 : (k : Int) < (n : Int) := by omega
      have HC := aside' (Cells.lit wr 79 #[.int .i64 xW, .int .u64 xH, .int .u64 xL] 1 3 rfl (by intro u hu; simp at hu; rcases hu with rfl | rfl | rfl <;> rfl))
      have HO1 := aside' (hO.out.alloc (.cells #[.int .i64 xW, .int .u64 xH, .int .u64 xL] 79))
      go_wp2_with (at_builtin; refine append_cells w.heap.size rfl _ _ 22 79 (.agg #[.int .i64 0, .int .u64 0, .int .u64 0]) 3 24 rfl Tryz.underlying22 infoBits rfl (by decide) (by decide) (.slice D L d) k (numsV (xs.take k)) [.int .i64 xW, .int .u64 xH, .int .u64 xL] _ 1 1 rfl rfl HO1.out HC.out (by simp; omega) (by omega) ?_; intro v1 w1 hown hg hat; have HN := aside' (And.intro hown hg); clear hown hg hat)
      go_roundw
      case rel => exact ⟨k + 1, by omega, by go_num, by rw [HSN.out]; exact HN.out.1, hB.trans (((Below.refl _ wr).alloc hsz _).trans (own_grown HO1.out HN.out.2 (by simp; omega)))⟩
      case measure => simp [intOf]; omega
    · obtain rfl : k = n := by omega
      have hall : xs.take k = xs := List.take_of_length_le (by rw [HA.out.1]; exact Nat.le_refl _)
      rw [hall] at hO
      have HLK : Aside (xs.length = k) := HA.out.1
      clear hall
      have HC := aside' (Cells.lit wr 79 #[.int .i64 77, .int .u64 0, .int .u64 0] 1 3 rfl (by intro u hu; simp at hu; rcases hu with rfl | rfl | rfl <;> rfl))
      have HO1 := aside' (hO.out.alloc (.cells #[.int .i64 77, .int .u64 0, .int .u64 0] 79))
      go_wp2_with (at_builtin; refine append_cells w.heap.size rfl _ _ 22 79 (.agg #[.int .i64 0, .int .u64 0, .int .u64 0]) 3 24 rfl Tryz.underlying22 infoBits rfl (by decide) (by decide) (.slice D L d) k (numsV xs) [.int .i64 77, .int .u64 0, .int .u64 0] _ 1 1 rfl rfl HO1.out HC.out (by simp; omega) (by omega) ?_; intro v1 w1 hown hg hat; have h2 := own_snoc (x := ⟨77, 0, 0⟩) hown; obtain ⟨g, q, rfl, hbg, hgs, HT⟩ := TwinN.of_own HLK.out h2; have HN := aside' (And.intro HT hg); have hq1 := HT.1; have hq2 : ((k:Nat):Int) ≤ (q:Int) := (by omega); clear hown hg hat h2 HT)
      go_ret
      exact ⟨g, q, rfl, hbg, hgs, HN.out.1, hB.trans (((Below.refl _ wr).alloc hsz _).trans (own_grown HO1.out HN.out.2 (by simp; omega)))⟩
end Go.Proofs.YtmoakgkoahjijaaGreatDoor

/- What is left of a twin of numbers. -/
set_option linter.unusedVariables false
set_option linter.unusedSimpArgs false
namespace Go.Proofs.YtmoakgkoahjijaaGreatDoor
open Go.RowKit

set_option maxHeartbeats 1600000 in
set_option maxRecDepth 100000 in
theorem leftN_any (g k n d : Nat) (B : Option Addr) (xs : List Num) (w : World) (HT : TwinN w g k n xs) (HR : ReadsNums w B n xs) :
    Calls Tryz.prog 10 #[.slice (some ⟨g, 0, none⟩) n k, .slice B n d] w fun e w' => e = .returned (.bool true) ∧ Below w.heap.size w w' := by
  have hnk := HT.1
  have HA := aside' (And.intro HT HR)
  have hk := HT.2.2.2
  have hd1 : ((n : Int) != (n : Int)) = false := by simp
  have hd2 : decide ((k : Int) ≤ (n : Int)) = false := decide_eq_false (by omega)
  have hd2n : decide (k ≤ n) = false := decide_eq_false (by omega)
  have hd3 : ((n : Int) + 1 : Int) ≤ (k : Int) := by omega
  have hd4 : (0 : Int) ≤ (n : Int) + 1 := by omega
  have hd5 : ((n : Int) + 1).toNat = n + 1 := by omega
  clear HT HR
  go_enter Tryz.func10, Tryz.ntmps10
  go_wp2
  go_loopw [5] (fun i wr => ∃ j : Nat, j ≤ n ∧ i = .int .i64 j ∧ ∃ q, wr = w.drewN q) (fun i _ => n - (intOf i).toNat)
  case atStart => exact ⟨0, Nat.zero_le _, rfl, 0, rfl⟩
  case round =>
    obtain ⟨j, hj, rfl, q, rfl⟩ := hrel
    by_cases hlt : j < n
    · obtain ⟨b0, o0, ha, hbs0, hca⟩ := HA.out.1.2.1.2.2 (by omega)
      injection ha with ha
      injection ha with ha1 ha2
      subst ha1 ha2
      obtain ⟨p0, p1, p2⟩ := hca j hlt
      rw [← Nat.add_assoc] at p1 p2
      obtain ⟨b, off, rfl, hbs, hcb⟩ := HA.out.2.2.2 (by omega)
      obtain ⟨q0, q1, q2⟩ := hcb j hlt
      rw [← Nat.add_assoc] at q1 q2
      rw [Nat.zero_add] at p0 p1 p2
      generalize xs.getD j zeroNum = x at *
      obtain ⟨xW, xH, xL⟩ := x
      simp only at p0 p1 p2 q0 q1 q2
      have hk0 : (0 : Int) ≤ (j : Int) := by omega
      have hk1 : (j : Int) < (n : Int) := by omega
      have heq : ∀ W0 : World, (binOp .neq 79 (.agg #[.int .i64 xW, .int .u64 xH, .int .u64 xL]) (.agg #[.int .i64 xW, .int .u64 xH, .int .u64 xL])).run Tryz.prog W0 = .ok (.bool false) W0 := by
        intro W0
        have h1 : (xW == xW) = true := by simp
        have h2 : (xH == xH) = true := by simp
        have h3 : (xL == xL) = true := by simp
        go_simp
      clear hca hcb
      go_wp2_with fail
      go_quiet (fail)
      go_wp2
      go_roundw
      case rel => exact ⟨j + 1, by omega, by go_num, _, rfl⟩
      case measure => simp [intOf]; omega
    · obtain rfl : j = n := by omega
      have hB := below_drewN (Below.refl w.heap.size w) q
      have c0 : (w.drewN q).cell? ⟨g, j * 3, none⟩ = some (.int .i64 77) := HA.out.1.2.2.1.1
      have c1 : (w.drewN q).cell? ⟨g, j * 3 + 1, none⟩ = some (.int .u64 0) := HA.out.1.2.2.1.2.1
      have c2 : (w.drewN q).cell? ⟨g, j * 3 + 2, none⟩ = some (.int .u64 0) := HA.out.1.2.2.1.2.2
      have HB := aside' (And.intro hB hB.size)
      clear hB HA
      generalize w.drewN q = W1 at *
      have i0 : (0 : Int) ≤ (j : Int) := by omega
      have i1 : (j : Int) < (j : Int) + 1 := by omega
      go_wp2
      go_ret
      exact ⟨rfl, HB.out.1.alloc HB.out.2 _⟩
end Go.Proofs.YtmoakgkoahjijaaGreatDoor

/- A book of bytes: each list is filled with its mark. -/
set_option linter.unusedVariables false
set_option linter.unusedSimpArgs false
namespace Go.Proofs.YtmoakgkoahjijaaGreatDoor
open Go.RowKit

/-- What a book's row shows of list k. -/
theorem Bk.at {W : World} {base b : Nat} {row : Value} {ps : List (Value × Value)} {F : Nat → Nat → Prop} (h : Bk W base b row ps F) {k : Nat} {p : Value × Value} (hp : ps[k]? = some p) :
    ∃ r cr, row = .slice (some ⟨r, 0, none⟩) ps.length cr ∧ r < W.heap.size ∧ ps.length ≤ cr ∧ W.cell? ⟨r, k * 3, none⟩ = some p.1 ∧ W.cell? ⟨r, k * 3 + 1, none⟩ = some p.2 ∧ W.cell? ⟨r, k * 3 + 2, none⟩ = some (.int .i64 ((k : Int) + 1)) := by
  have hlt : k < ps.length := (List.getElem?_eq_some_iff.1 hp).1
  have hr := h.hr
  obtain ⟨r, cr, rfl, _, hr2, hr3, _⟩ := own_some hr (by omega)
  obtain ⟨e1, e2, e3⟩ := flat3_at ps k p hp
  have c := hr.cells (g := r) rfl
  have c1 := c _ _ e1
  have c2 := c _ _ e2
  have c3 := c _ _ e3
  rw [add_plain] at c1 c2 c3
  exact ⟨r, cr, rfl, hr2, hr3, c1, c2, c3⟩
/-- The lists while they are filled: those ahead of k are full of marks. -/
def Fill (W : World) (base : Nat) (ps : List (Value × Value)) (ns : Nat → Nat) (F : Nat → Nat → Prop) (k : Nat) : Prop :=
  ∀ j p, ps[j]? = some p → p.2 = .slice none 0 0 ∧ (j < k → L2 W base (F j) p.1 (ns j) j) ∧ (k ≤ j → L1 W base (F j) p.1 (ns j))
theorem marks_take (xs : List Int) (m : Nat) (x : Int) (hm : m < xs.length) (h : xs.take m = List.replicate m x) : (xs.set m x).take (m + 1) = List.replicate (m + 1) x := by
  rw [List.replicate_succ', ← h, List.take_succ_eq_append_getElem (by rw [List.length_set]; exact hm), List.getElem_set_self, List.take_set_of_le (Nat.le_refl _)]
theorem Fill.foot {W W' : World} {base k : Nat} {ps : List (Value × Value)} {ns : Nat → Nat} {F : Nat → Nat → Prop} {G : Nat → Prop} (h : Fill W base ps ns F k) (hf : Foot G W W') (hne : ∀ j q, F j q → ¬ G q) : Fill W' base ps ns F k :=
  fun j p hp => ⟨(h j p hp).1, fun hj => ((h j p hp).2.1 hj).foot hf (hne j), fun hj => ((h j p hp).2.2 hj).foot hf (hne j)⟩
/-- One list more is full. -/
theorem Fill.next {W0 W1 : World} {base k : Nat} {ps : List (Value × Value)} {ns : Nat → Nat} {F : Nat → Nat → Prop} (h : Fill W0 base ps ns F k) (hf : Foot (F k) W0 W1) (hd : ∀ i j q, F i q → F j q → i = j) (h2 : ∀ p, ps[k]? = some p → L2 W1 base (F k) p.1 (ns k) k) : Fill W1 base ps ns F (k + 1) := by
  intro j p hp
  refine ⟨(h j p hp).1, fun hj => ?_, fun hj => ((h j p hp).2.2 (by omega)).foot hf (fun q hq hq' => by have := hd j k q hq hq'; omega)⟩
  rcases Nat.lt_or_ge j k with hlt | hge
  · exact ((h j p hp).2.1 hlt).foot hf (fun q hq hq' => by have := hd j k q hq hq'; omega)
  · obtain rfl : j = k := by omega
    exact h2 p hp
set_option maxRecDepth 100000 in
set_option maxHeartbeats 3200000 in
theorem fill_any (base b : Nat) (row : Value) (ps : List (Value × Value)) (ns : Nat → Nat) (F : Nat → Nat → Prop) (W : World) (h : Bk W base b row ps F) (hN : ps.length ≤ 1000000000) (hns : ∀ j, ns j ≤ 140737488355328) (h1 : Fill W base ps ns F 0) :
    Calls Tryz.prog 46 #[.pointer (some ⟨b, 0, none⟩)] W fun e w' => (∃ u, e = .returned u) ∧ Bk w' base b row ps F ∧ Fill w' base ps ns F ps.length ∧ Foot (fun q => ∃ j, F j q) W w' := by
  have H0 := aside' (And.intro h h1)
  have HNS := aside' hns
  clear h h1 hns
  go_enter Tryz.func46, Tryz.ntmps46
  go_wp2
  go_loopw [2] (fun i wr => ∃ k : Nat, k ≤ ps.length ∧ i = .int .i64 k ∧ Aside (Bk wr base b row ps F ∧ Fill wr base ps ns F k ∧ Foot (fun q => ∃ j, F j q) W wr)) (fun i _ => ps.length - (intOf i).toNat)
  case atStart => exact ⟨0, Nat.zero_le _, rfl, H0.out.1, H0.out.2, Foot.refl _ _⟩
  case round =>
    obtain ⟨k, hk, rfl, HI⟩ := hrel
    have hbc : wr.cell? ⟨b, 2, none⟩ = some row := cellOf HI.out.1.hb 2
    obtain ⟨Ar, Lr, cr0, hrow, HLr⟩ := own_form HI.out.1.hr
    have hLr := HLr.out
    subst hLr
    subst hrow
    by_cases hlt : k < ps.length
    · have g1 : decide ((k : Int) < (ps.length : Int)) = true := decide_eq_true (by omega)
      obtain ⟨p, hp⟩ : ∃ p, ps[k]? = some p := ⟨_, List.getElem?_eq_getElem hlt⟩
      obtain ⟨r, cr, hr, hrl, hcr, e1, e2, e3⟩ := HI.out.1.at hp
      injection hr with hr1 hr2 hr3
      subst hr1
      obtain ⟨xs0, hown0, hF0⟩ := (HI.out.2.1 k p hp).2.2 (Nat.le_refl _)
      have hlg := (HI.out.2.1 k p hp).1
      obtain ⟨v, lg⟩ := p
      simp only at e1 e2 hown0 hF0 hlg
      subst hlg
      obtain ⟨A, n, c, rfl, HLn⟩ := own_form hown0
      have hn := HLn.out
      subst hn
      have hnb := HNS.out k
      have HP := aside' hp
      have HF0 := aside' hF0
      have i0 : (0 : Int) ≤ (k : Int) := by omega
      have i1 : (k : Int) < (ps.length : Int) := by omega
      have HOWN := aside' (hown0.alloc (.cells #[.slice A (ns k) c, .slice none 0 0, .int .i64 ((k : Int) + 1)] 118))
      have HBX := aside' (heap_alloc_new wr (.cells #[.slice A (ns k) c, .slice none 0 0, .int .i64 ((k : Int) + 1)] 118))
      have hxl0 : xs0.length = ns k := by have := hown0.1; simpa [nums] using this
      have HXL := aside' hxl0
      have HQ := aside' (show ¬ F k wr.heap.size from fun e => by have := (HI.out.1.fl k _ e).2.1; omega)
      have hal := (Foot.refl (fun _ => False) wr).alloc (.cells #[.slice A (ns k) c, .slice none 0 0, .int .i64 ((k : Int) + 1)] 118)
      have HB0 := aside' (And.intro (HI.out.1.foot hal (fun h => h) (fun _ _ h => h)) (And.intro (HI.out.2.1.foot hal (fun _ _ _ h => h)) (HI.out.2.2.alloc (.cells #[.slice A (ns k) c, .slice none 0 0, .int .i64 ((k : Int) + 1)] 118))))
      clear hr2 hr3 hown0 hF0 hp hxl0 HLn hal
      generalize hns : ns k = n at *
      go_upto_region 4 with fail
      generalize wr.alloc (.cells #[.slice A n c, .slice none 0 0, .int .i64 ((k : Int) + 1)] 118) = W0 at *
      generalize wr.heap.size = q at *
      clear e1 e2 e3 hbc
      go_wp2_with fail
      go_loopw [4] (fun kk ws => ∃ m : Nat, m ≤ n ∧ kk = .int .i64 m ∧ Aside (∃ xs : List Int, ws.ownsRow base 5 1 (.slice A n c) n (nums .u8 xs) ∧ xs.length = n ∧ xs.take m = List.replicate m (mark k) ∧ Foot (F k) W0 ws)) (fun kk _ => n - (intOf kk).toNat)
      case atStart => exact ⟨0, Nat.zero_le _, rfl, xs0, HOWN.out, HXL.out, rfl, Foot.refl _ _⟩
      case round =>
        obtain ⟨m, hm, rfl, HM⟩ := hrel
        obtain ⟨xs, hown, hxl, htk, hft⟩ := HM.out
        have hbx := hft.blk HBX.out HQ.out
        have b0 : wr.cell? ⟨q, 0, none⟩ = some (.slice A n c) := cellOf hbx 0
        have b2 : wr.cell? ⟨q, 2, none⟩ = some (.int .i64 ((k : Int) + 1)) := cellOf hbx 2
        have HX := aside' (And.intro hown (And.intro hxl (And.intro htk hft)))
        clear hbx HM
        by_cases hlt2 : m < n
        · have g2 : decide ((m : Int) < (n : Int)) = true := decide_eq_true (by omega)
          obtain ⟨g, c', hv, hg1, hg2, hg3, hg4⟩ := own_some hown (by omega)
          injection hv with hv1 hv2 hv3
          subst hv1
          have d0 : wr.drew.cell? ⟨q, 0, none⟩ = some (.slice (some ⟨g, 0, none⟩) n c) := b0
          have d2 : wr.drew.cell? ⟨q, 2, none⟩ = some (.int .i64 ((k : Int) + 1)) := b2
          have dg : wr.drew.cell? ⟨g, m, none⟩ = some (.int .u8 (xs.getD m 0)) := own_at hown m hlt2
          have fg : wr.drew.frozen? ⟨g, m, none⟩ = false := hown.frozenAt m
          have j0 : (0 : Int) ≤ (m : Int) := by omega
          have j1 : (m : Int) < (n : Int) := by omega
          have HNX := aside' (And.intro (own_put hown m (mark k)) (And.intro (marks_take xs m (mark k) (by omega) htk) (hft.setCell (p := ⟨g, m, none⟩) (.inl (HF0.out g rfl)) (.int .u8 (mark k)))))
          have HMK := aside' (fun (V : World) => mark_any k (by omega) V)
          generalize xs.getD m 0 = y at *
          have hmb := mark_bd k
          generalize mark k = mk at *
          clear hown htk hft hv2 hv3
          go_wp2_with fail
          go_region_law ((go_simp; go_at_call 147; refine Calls.mono (HMK.out _) ?_; rintro e w' ⟨rfl, rfl⟩))
          all_goals go_wp2
          all_goals go_roundw
          all_goals first
            | exact ⟨m + 1, by omega, by go_num, xs.set m mk, HNX.out.1, (by rw [List.length_set]; exact HX.out.2.1), HNX.out.2.1, HNX.out.2.2.drewN 1⟩
            | (simp [intOf]; omega)
        · obtain rfl : m = n := by omega
          have g2 : decide ((m : Int) < (m : Int)) = false := decide_eq_false (by omega)
          have hL2 : L2 wr base (F k) (.slice A m c) (ns k) k := ⟨by rw [hns, ← htk, List.take_of_length_le (by omega)]; exact hown, HF0.out⟩
          have hfd := HI.out.1.fl
          have HFIN := aside' (And.intro (HB0.out.1.foot hft (fun e => (hfd k b e).2.2.1 rfl) (fun q' hq' e => (hfd k q' e).2.2.2 hq')) (And.intro (HB0.out.2.1.next hft HI.out.1.fd (fun p' hp' => by rw [HP.out] at hp'; injection hp' with hp'; rw [← hp']; exact hL2)) (HB0.out.2.2.trans hft (fun i hi => .inl ⟨k, hi⟩))))
          clear hown htk hft hL2 hfd
          go_wp2
          go_roundw
          case rel => exact ⟨k + 1, by omega, by go_num, HFIN.out⟩
          case measure => (simp [intOf]; omega)
    · obtain rfl : k = ps.length := by omega
      have g1 : decide ((ps.length : Int) < (ps.length : Int)) = false := decide_eq_false (by omega)
      go_wp2
      go_end0
      exact ⟨⟨_, rfl⟩, HI.out⟩
end Go.Proofs.YtmoakgkoahjijaaGreatDoor

/- A book of bytes: what is known while more is put behind a list. -/
set_option linter.unusedVariables false
set_option linter.unusedSimpArgs false
namespace Go.Proofs.YtmoakgkoahjijaaGreatDoor
open Go.RowKit

theorem own_lt' {W : World} {base n : Nat} {e : TypeId} {size : Nat} {v : Value} {xs : List Value} (ho : W.ownsRow base e size v n xs) {g : Nat} (hg : v.ownBlock = some g) : base ≤ g ∧ g < W.heap.size := by
  rcases ho.2 with ⟨h1, _⟩ | ⟨g', cap, cur, h1, h2, h3, _⟩
  · rw [h1] at hg; cases hg
  · rw [h1] at hg; injection hg with hg; subst hg; exact ⟨h2, (Array.getElem?_eq_some_iff.1 h3).1⟩
theorem reads_keep {w w' : World} {k : IntKind} {A : Option Addr} {n : Nat} {xs : List Int} (h : Reads w k A n xs) (hk : ∀ ad, A = some ad → 0 < n → w'.heap[ad.block]? = w.heap[ad.block]?) : Reads w' k A n xs :=
  ⟨h.1, h.2.1, fun hn => by
    obtain ⟨ad, e, hc⟩ := h.2.2 hn
    exact ⟨ad, e, fun j hj => (World.cell?_of_block (by rw [add_block]; exact hk ad e hn)).trans (hc j hj)⟩⟩
/-- While more is put behind list v: long is a row of the law's own; either it lies in the list's own block, or in a new one, the list being as it was. -/
def GI (W0 : World) (base : Nat) (A : Option Addr) (n c : Nat) (mk : Int) (W : World) (long : Value) (m : Nat) : Prop :=
  W.ownsRow base 5 1 long (n + m) (nums .u8 (List.replicate (n + m) mk)) ∧ Foot (fun q => (Value.slice A n c).ownBlock = some q) W0 W ∧
    Reads W .u8 A n (List.replicate n mk) ∧ (long.ownBlock = (Value.slice A n c).ownBlock ∨ ∃ g, long.ownBlock = some g ∧ W0.heap.size ≤ g)
theorem GI.start {W0 : World} {base : Nat} {F : Nat → Prop} {A : Option Addr} {n c i : Nat} (h : L2 W0 base F (.slice A n c) n i) : GI W0 base A n c (mark i) W0 (.slice A n c) 0 :=
  ⟨by simpa using h.1, Foot.refl _ _, own_rd' h.1, .inl rfl⟩
theorem GI.step {W0 W W1 : World} {base : Nat} {A : Option Addr} {n c m : Nat} {mk : Int} {long v1 : Value} {o : Obj} (h : GI W0 base A n c mk W long m) (hA : ∀ k, (Value.slice A n c).ownBlock = some k → k < W0.heap.size) (hA2 : 0 < n → ∃ g, A = some ⟨g, 0, none⟩)
    (hown : W1.ownsRow base 5 1 v1 (n + m + 1) (nums .u8 (List.replicate (n + m) mk ++ [mk]))) (hg : (W.alloc o).grownBy W1 long.ownBlock) (hat : v1.ownBlock = long.ownBlock ∨ (v1.ownBlock = some (W.alloc o).heap.size ∧ (W.alloc o).grownBy W1 none)) :
    GI W0 base A n c mk W1 v1 (m + 1) := by
  obtain ⟨h1, h2, h3, h4⟩ := h
  have hs := h2.size
  have e : List.replicate (n + m) mk ++ [mk] = List.replicate (n + (m + 1)) mk := by rw [← List.replicate_succ']; rfl
  rw [e] at hown
  have hft : Foot (fun q => (Value.slice A n c).ownBlock = some q) W0 W1 := (h2.alloc o).grown hg (fun k hk => by
    rcases h4 with h4 | ⟨g, h4, hge⟩
    · exact .inl (h4.symm.trans hk)
    · rw [h4] at hk; injection hk with hk; exact .inr (by omega))
  have hat2 : v1.ownBlock = (Value.slice A n c).ownBlock ∨ ∃ g, v1.ownBlock = some g ∧ W0.heap.size ≤ g := by
    rcases hat with h | ⟨h, _⟩
    · rw [h]; exact h4
    · exact .inr ⟨_, h, by simp; omega⟩
  refine ⟨hown, hft, ?_, hat2⟩
  rcases hat with hat | ⟨_, hn⟩
  · rcases h4 with h4 | ⟨g, h4, hge⟩
    · rcases Nat.eq_zero_or_pos n with h0 | h0
      · subst h0
        exact ⟨rfl, by omega, fun h => absurd h (by omega)⟩
      · obtain ⟨g, rfl⟩ := hA2 h0
        obtain ⟨g', c', hv, _⟩ := own_some hown (by omega)
        have : g' = g := by
          have h5 := hat.trans h4
          rw [hv] at h5
          simpa [Value.ownBlock] using h5
        subst this
        subst hv
        have hr := (own_rd hown).take_ n (by omega)
        rwa [List.take_replicate, show min n (n + (m + 1)) = n by omega] at hr
    · refine reads_keep h3 (fun ad e' hn0 => ?_)
      obtain ⟨g2, hg2⟩ := hA2 hn0
      rw [hg2] at e'
      injection e' with e'
      subst e'
      have hlt := hA g2 (by rw [hg2]; rfl)
      rw [hg.block g2 (by simp; omega) (fun e' => by rw [h4] at e'; injection e' with e'; omega), Below.heap_alloc _ _ _ (by omega)]
  · refine reads_keep h3 (fun ad e' hn0 => ?_)
    obtain ⟨g2, hg2⟩ := hA2 hn0
    rw [hg2] at e'
    injection e' with e'
    subst e'
    have hlt := hA g2 (by rw [hg2]; rfl)
    rw [hn.block g2 (by simp; omega) (by simp), Below.heap_alloc _ _ _ (by omega)]
/-- The lists while they grow. -/
def Grow (W : World) (base : Nat) (ps : List (Value × Value)) (ns : Nat → Nat) (F : Nat → Nat → Prop) (k : Nat) : Prop :=
  ∀ j p, ps[j]? = some p → (j < k → L3 W base (F j) p.1 p.2 (ns j) j) ∧ (k ≤ j → p.2 = .slice none 0 0 ∧ L2 W base (F j) p.1 (ns j) j)
theorem L3.foot {W W' : World} {base n i : Nat} {F G : Nat → Prop} {v long : Value} (h : L3 W base F v long n i) (hf : Foot G W W') (hne : ∀ k, F k → ¬ G k) (hlt : ∀ k, F k → k < W.heap.size) : L3 W' base F v long n i := by
  obtain ⟨h1, h2, A, c, rfl, h3, h4, h5⟩ := h
  refine ⟨own_foot h1 hf (fun k hk => hne k (h2 k hk)), h2, A, c, rfl, h3, reads_keep h4 (fun ad e hn => ?_), h5⟩
  obtain ⟨g, hg, hF⟩ := h5 hn
  rw [hg] at e
  injection e with e
  subst e
  exact hf.block g (hlt g hF) (hne g hF)
theorem L3.mono {W : World} {base n i : Nat} {F G : Nat → Prop} {v long : Value} (h : L3 W base F v long n i) (hm : ∀ k, F k → G k) : L3 W base G v long n i := by
  obtain ⟨h1, h2, A, c, rfl, h3, h4, h5⟩ := h
  exact ⟨h1, fun k hk => hm k (h2 k hk), A, c, rfl, h3, h4, fun hn => (h5 hn).imp fun g hg => ⟨hg.1, hm g hg.2⟩⟩
theorem Grow.foot {W W' : World} {base k : Nat} {ps : List (Value × Value)} {ns : Nat → Nat} {F : Nat → Nat → Prop} {G : Nat → Prop} (h : Grow W base ps ns F k) (hf : Foot G W W') (hne : ∀ j q, F j q → ¬ G q) (hlt : ∀ j q, F j q → q < W.heap.size) : Grow W' base ps ns F k :=
  fun j p hp => ⟨fun hj => ((h j p hp).1 hj).foot hf (hne j) (hlt j), fun hj => ⟨((h j p hp).2 hj).1, ((h j p hp).2 hj).2.foot hf (hne j)⟩⟩
/-- More is put behind one list more. -/
theorem Grow.next {W0 W2 : World} {base k : Nat} {ps : List (Value × Value)} {ns : Nat → Nat} {F : Nat → Nat → Prop} {G X : Nat → Prop} {v long : Value} (h : Grow W0 base ps ns F k) (hf : Foot G W0 W2) (hne : ∀ j q, j ≠ k → F j q → ¬ G q) (hlt : ∀ j q, F j q → q < W0.heap.size) (hk : k < ps.length)
    (h3 : L3 W2 base (fun q => F k q ∨ (k = k ∧ X q)) v long (ns k) k) : Grow W2 base (ps.set k (v, long)) ns (fun j q => F j q ∨ (j = k ∧ X q)) (k + 1) := by
  intro j p hp
  rcases Nat.lt_or_ge j k with hj | hj
  · rw [List.getElem?_set_ne (by omega)] at hp
    exact ⟨fun _ => (((h j p hp).1 hj).foot hf (fun q hq => hne j q (by omega) hq) (hlt j)).mono (fun q hq => .inl hq), fun h' => by omega⟩
  · rcases Nat.eq_or_lt_of_le hj with e | hj2
    · subst e
      rw [List.getElem?_set_self hk] at hp
      injection hp with hp
      subst hp
      exact ⟨fun _ => h3, fun h' => by omega⟩
    · rw [List.getElem?_set_ne (by omega)] at hp
      refine ⟨fun h' => by omega, fun _ => ⟨((h j p hp).2 hj).1, ?_⟩⟩
      have h4 := ((h j p hp).2 hj).2.foot hf (fun q hq => hne j q (by omega) hq)
      exact ⟨h4.1, fun q hq => .inl (h4.2 q hq)⟩
/-- The book when the long list is written down. -/
theorem Bk.long {W0 W : World} {base b k r cr : Nat} {ps : List (Value × Value)} {F : Nat → Nat → Prop} {X : Nat → Prop} {v lg long : Value} (h : Bk W0 base b (.slice (some ⟨r, 0, none⟩) ps.length cr) ps F) (hb : W.heap[b]? = W0.heap[b]?) (hr : W.heap[r]? = W0.heap[r]?) (hsz : W0.heap.size ≤ W.heap.size) (hp : ps[k]? = some (v, lg))
    (hX : ∀ q, X q → base ≤ q ∧ W0.heap.size ≤ q ∧ q < W.heap.size) :
    Bk (W.setCell ⟨r, k * 3 + 1, none⟩ long) base b (.slice (some ⟨r, 0, none⟩) ps.length cr) (ps.set k (v, long)) (fun j q => F j q ∨ (j = k ∧ X q)) := by
  have hbl : b < W0.heap.size := (Array.getElem?_eq_some_iff.1 h.hb).1
  have hrl : r < W0.heap.size := (own_lt' h.hr rfl).2
  have hbr : b ≠ r := fun e => h.rb (by rw [e]; rfl)
  have hown : W.ownsRow base 118 3 (.slice (some ⟨r, 0, none⟩) ps.length cr) ps.length (flat3 0 ps) := by
    refine ⟨h.hr.1, h.hr.2.elim .inl ?_⟩
    rintro ⟨g, cap, cur, h1, h2, h3, rest⟩
    have e : r = g := by
      have h1' := congrArg Value.ownBlock h1
      simpa [Value.ownBlock] using h1'
    subst e
    exact .inr ⟨r, cap, cur, h1, h2, hr.trans h3, rest⟩
  have hst := (hown.stored (k * 3 + 1) long).1
  rw [flat3_set ps 0 k (v, lg) long hp] at hst
  refine ⟨?_, by rw [List.length_set]; exact hst, h.rb, h.bb, ?_, ?_⟩
  · rw [List.length_set, Below.heap_setCell _ _ _ _ hbr, hb]; exact h.hb
  · intro i q hq
    have hs2 : (W.setCell ⟨r, k * 3 + 1, none⟩ long).heap.size = W.heap.size := by simp [World.setCell]
    rw [hs2]
    rcases hq with hq | ⟨_, hq⟩
    · have := h.fl i q hq
      exact ⟨this.1, by omega, this.2.2⟩
    · have := hX q hq
      refine ⟨this.1, this.2.2, by omega, fun e => ?_⟩
      have e' : r = q := by simpa [Value.ownBlock] using e
      omega
  · intro i j q hi hj
    rcases hi with hi | ⟨ei, hi⟩ <;> rcases hj with hj | ⟨ej, hj⟩
    · exact h.fd i j q hi hj
    · have := (h.fl i q hi).2.1; have := (hX q hj).2.1; omega
    · have := (h.fl j q hj).2.1; have := (hX q hi).2.1; omega
    · omega
end Go.Proofs.YtmoakgkoahjijaaGreatDoor

/- A book of bytes: more is put behind each list. -/
set_option linter.unusedVariables false
set_option linter.unusedSimpArgs false
namespace Go.Proofs.YtmoakgkoahjijaaGreatDoor
open Go.RowKit

theorem reads_one8 (W : World) (t : TypeId) (x : Int) : Reads (W.alloc (.cells #[.int .u8 x] t)) .u8 (some ⟨W.heap.size, 0, none⟩) 1 [x] := by
  refine ⟨rfl, by decide, fun _ => ⟨_, rfl, fun j hj => ?_⟩⟩
  obtain rfl : j = 0 := by omega
  rw [add_plain, cellOf (heap_alloc_new W (.cells #[.int .u8 x] t)) 0]
  rfl
set_option maxRecDepth 100000 in
set_option maxHeartbeats 3200000 in
theorem grow_any (base b : Nat) (row : Value) (ps : List (Value × Value)) (ns : Nat → Nat) (F : Nat → Nat → Prop) (W : World) (h : Bk W base b row ps F) (hN : ps.length ≤ 1000000000) (hns : ∀ j, ns j ≤ 140737488355200) (h1 : Grow W base ps ns F 0) :
    Calls Tryz.prog 76 #[.pointer (some ⟨b, 0, none⟩)] W fun e w' => (∃ u, e = .returned u) ∧ ∃ ps' F', ps'.length = ps.length ∧ Bk w' base b row ps' F' ∧ Grow w' base ps' ns F' ps.length ∧ Foot (fun q => row.ownBlock = some q ∨ ∃ i, F i q) W w' := by
  have H0 := aside' (And.intro h h1)
  have HNS := aside' hns
  have hbase : base ≤ W.heap.size := Nat.le_of_lt (Nat.lt_of_le_of_lt h.bb (Array.getElem?_eq_some_iff.1 h.hb).1)
  clear h h1 hns
  obtain ⟨N, hNe⟩ : ∃ N, N = ps.length := ⟨_, rfl⟩
  rw [← hNe] at hN ⊢
  have HNe := aside' hNe
  clear hNe
  go_enter Tryz.func76, Tryz.ntmps76
  go_wp2
  go_loopw [2] (fun i wr => ∃ k : Nat, k ≤ N ∧ i = .int .i64 k ∧ Aside (∃ ps' F', ps'.length = N ∧ Bk wr base b row ps' F' ∧ Grow wr base ps' ns F' k ∧ Foot (fun q => row.ownBlock = some q ∨ ∃ i, F i q) W wr ∧ ∀ i q, F' i q → F i q ∨ W.heap.size ≤ q)) (fun i _ => N - (intOf i).toNat)
  case atStart => exact ⟨0, Nat.zero_le _, rfl, ps, F, HNe.out.symm, H0.out.1, H0.out.2, Foot.refl _ _, fun _ _ h => .inl h⟩
  case round =>
    obtain ⟨k, hk, rfl, HI⟩ := hrel
    obtain ⟨qs, G, hql, hbk, hgr, hft, hgf⟩ := HI.out
    clear H0 HI
    have hbc : wr.cell? ⟨b, 2, none⟩ = some row := cellOf hbk.hb 2
    obtain ⟨Ar, Lr, cr0, hrow, HLr⟩ := own_form hbk.hr
    have hLr := HLr.out
    rw [hql] at hLr
    subst hLr
    subst hrow
    have HI := aside' (And.intro hbk (And.intro hgr hft))
    have HGF := aside' hgf
    clear hgf
    by_cases hlt : k < Lr
    · have g1 : decide ((k : Int) < (Lr : Int)) = true := decide_eq_true (by omega)
      have g1n : decide (k < Lr) = true := decide_eq_true hlt
      obtain ⟨p, hp⟩ : ∃ p, qs[k]? = some p := ⟨_, List.getElem?_eq_getElem (by omega)⟩
      obtain ⟨r, cr, hr, hrl, hcr, e1, e2, e3⟩ := hbk.at hp
      injection hr with hr1 hr2 hr3
      subst hr1
      subst hr3
      obtain ⟨hlg, hL2⟩ := (hgr k p hp).2 (Nat.le_refl _)
      obtain ⟨v, lg⟩ := p
      simp only at e1 e2 hlg hL2
      subst hlg
      obtain ⟨A, n, c, rfl, HLn⟩ := own_form hL2.1
      have hn := HLn.out
      subst hn
      have hnb := HNS.out k
      have HP := aside' hp
      have i0 : (0 : Int) ≤ (k : Int) := by omega
      have i1 : (k : Int) < (Lr : Int) := by omega
      have hal := (Foot.refl (fun _ => False) wr).alloc (.cells #[.slice A (ns k) c, .slice none 0 0, .int .i64 ((k : Int) + 1)] 118)
      have HL0 := aside' (hL2.foot hal (fun _ _ h => h))
      have HBX := aside' (heap_alloc_new wr (.cells #[.slice A (ns k) c, .slice none 0 0, .int .i64 ((k : Int) + 1)] 118))
      have HB0 := aside' (And.intro (hbk.foot hal (fun h => h) (fun _ _ h => h)) (And.intro (hgr.foot hal (fun _ _ _ h => h) (fun j q hq => (hbk.fl j q hq).2.1)) (And.intro (hft.alloc (.cells #[.slice A (ns k) c, .slice none 0 0, .int .i64 ((k : Int) + 1)] 118)) (show wr.heap.size < (wr.alloc (.cells #[.slice A (ns k) c, .slice none 0 0, .int .i64 ((k : Int) + 1)] 118)).heap.size by simp))))
      have HV := aside' (And.intro (show ∀ q, (Value.slice A (ns k) c).ownBlock = some q → q < wr.heap.size from fun q hq => (own_lt' hL2.1 hq).2) (show 0 < ns k → ∃ g, A = some ⟨g, 0, none⟩ from fun h => by
        obtain ⟨g, c', hv, _⟩ := own_some hL2.1 h
        injection hv with hv1 _ _
        exact ⟨g, hv1⟩))
      have hnc : ns k ≤ c := by
        rcases hL2.1.2 with ⟨h1, _⟩ | ⟨g, cap, cur, h1, _, _, h4, _⟩
        · injection h1 with _ h2 _; omega
        · injection h1 with _ _ h3; omega
      clear hr2 hL2 hp HLn hal hbk hgr hft
      generalize hns : ns k = n at *
      go_upto_region 4 with fail
      generalize hWq : wr.alloc (.cells #[.slice A n c, .slice none 0 0, .int .i64 ((k : Int) + 1)] 118) = W0 at *
      have b0_ : W0.cell? ⟨wr.heap.size, 0, none⟩ = some (.slice A n c) := cellOf HBX.out 0
      clear e1 e2 e3 hbc hWq
      go_wp2_with fail
      clear b0_
      have HST := aside' (show GI W0 base A n c (mark k) W0 (.slice A n c) 0 from GI.start (F := G k) (i := k) HL0.out)
      generalize hq : wr.heap.size = q at *
      go_loopw [4, 5] (fun long kk wr => ∃ m : Nat, m ≤ 40 ∧ kk = .int .i64 m ∧ Aside (GI W0 base A n c (mark k) wr long m)) (fun _ kk _ => 40 - (intOf kk).toNat)
      case atStart => exact ⟨0, Nat.zero_le _, rfl, HST.out⟩
      case round =>
        obtain ⟨m, hm, rfl, HM⟩ := hrel
        obtain ⟨Al, Ll, cl, rfl, HLl⟩ := own_form HM.out.1
        have hLl := HLl.out
        subst hLl
        by_cases hlt2 : m < 40
        · have g2 : decide ((m : Int) < 40) = true := decide_eq_true (by omega)
          have hbx := HM.out.2.1.blk HBX.out (fun e => by have := HV.out.1 q e; omega)
          have b2 : wr.cell? ⟨q, 2, none⟩ = some (.int .i64 ((k : Int) + 1)) := cellOf hbx 2
          have HMK := aside' (mark_any k (by omega) wr)
          have hmb := mark_bd k
          have hsz := HM.out.2.1.size
          have HO := aside' ((show wr.ownsRow base 5 1 (.slice Al (n + m) cl) (List.replicate (n + m) (mark k)).length (nums .u8 (List.replicate (n + m) (mark k))) from by rw [List.length_replicate]; exact HM.out.1).alloc (.cells #[.int .u8 (mark k)] 5))
          have HRO := aside' (reads_one8 wr 5 (mark k))
          have hbs : base ≤ (wr.alloc (.cells #[.int .u8 (mark k)] 5)).heap.size := by have := HB0.out.2.2.1.size; simp; omega
          clear hbx HLl
          go_wp2_with fail
          refine Calls.mono HMK.out ?_
          rintro e w' ⟨rfl, hw'⟩
          have hw' := hw'.symm
          subst hw'
          go_wp2_with (at_builtin; refine append_row_far base rfl _ _ 24 5 .u8 1 rfl Tryz.underlying24 infoBY (by omega) (.slice Al (n + m) cl) (List.replicate (n + m) (mark k)) [mark k] _ 1 1 rfl rfl (by omega) HO.out HRO.out hbs (by simp; omega) ?_; intro v1 w1 hown1 hg1 hat1; have hG1 := HM.out.step (fun q' hq' => (by have := HV.out.1 q' hq'; have := HB0.out.2.2.2; omega)) HV.out.2 (by have h := hown1; simp only [List.length_append, List.length_replicate, List.length_singleton] at h; exact h) hg1 hat1; have HG1 := aside' hG1; obtain ⟨g1, k1, rfl, _, _, _, _⟩ := own_some hG1.1 (by omega); clear hown1 hg1 hat1 hG1)
          go_roundw
          case rel => exact ⟨m + 1, by omega, by go_num, HG1.out⟩
          case measure => (simp [intOf]; omega)
        · obtain rfl : m = 40 := by omega
          have g2 : decide (((40 : Nat) : Int) < 40) = false := by decide
          obtain ⟨hown, hft, hrd, hat⟩ := HM.out
          have hfl := HB0.out.1.fl
          have hvG := HL0.out.2
          have hbl := (Array.getElem?_eq_some_iff.1 HB0.out.1.hb).1
          have hrl0 := own_lt' HB0.out.1.hr (g := r) rfl
          have hbk : wr.heap[b]? = W0.heap[b]? := hft.block b hbl (fun e => (hfl k b (hvG b e)).2.2.1 rfl)
          have hrk : wr.heap[r]? = W0.heap[r]? := hft.block r hrl0.2 (fun e => (hfl k r (hvG r e)).2.2.2 rfl)
          obtain ⟨r', cr', hr', _, _, s1, s2, s3⟩ := HB0.out.1.at HP.out
          have er : r = r' := by
            have h' := congrArg Value.ownBlock hr'
            simpa [Value.ownBlock] using h'
          rw [← er] at s1 s2 s3
          clear er hr'
          have kb : wr.cell? ⟨b, 2, none⟩ = some (.slice (some ⟨r, 0, none⟩) Lr cr0) := (World.cell?_of_block (a := ⟨b, 2, none⟩) hbk).trans (cellOf HB0.out.1.hb 2)
          have kc : wr.cell? ⟨r, k * 3 + 1, none⟩ = some (.slice none 0 0) := (World.cell?_of_block (a := ⟨r, k * 3 + 1, none⟩) hrk).trans s2
          have kf : wr.frozen? ⟨r, k * 3 + 1, none⟩ = false := (World.frozen?_of_block (a := ⟨r, k * 3 + 1, none⟩) hrk).trans (by have h := HB0.out.1.hr; rw [hql] at h; exact h.frozenAt _)
          have hX : ∀ q', ((Value.slice Al (n + 40) cl).ownBlock = some q' ∧ W0.heap.size ≤ q') → base ≤ q' ∧ W0.heap.size ≤ q' ∧ q' < wr.heap.size := fun q' hq' => ⟨(own_lt' hown hq'.1).1, hq'.2, (own_lt' hown hq'.1).2⟩
          have hfr : Foot (fun q' => (Value.slice A n c).ownBlock = some q' ∨ q' = r) W0 (wr.setCell ⟨r, k * 3 + 1, none⟩ (.slice Al (n + 40) cl)) := (hft.mono (fun _ _ h => .inl h)).setCell (p := ⟨r, k * 3 + 1, none⟩) (.inl (.inr rfl)) _
          have hBk := HB0.out.1
          rw [← hql] at hBk
          have hB2 := hBk.long (W := wr) (X := fun q' => (Value.slice Al (n + 40) cl).ownBlock = some q' ∧ W0.heap.size ≤ q') (long := .slice Al (n + 40) cl) hbk hrk hft.size HP.out hX
          rw [hql] at hB2
          have hlr : ∀ q', (Value.slice Al (n + 40) cl).ownBlock = some q' → q' ≠ r := by
            intro q' hq'
            rcases hat with h | ⟨g, h, hge⟩
            · have := (hfl k q' (hvG q' (h ▸ hq'))).2.2.2
              exact fun e => this (by rw [e]; rfl)
            · rw [h] at hq'; injection hq' with hq'; omega
          have hL3 : L3 (wr.setCell ⟨r, k * 3 + 1, none⟩ (.slice Al (n + 40) cl)) base (fun q' => G k q' ∨ (k = k ∧ ((Value.slice Al (n + 40) cl).ownBlock = some q' ∧ W0.heap.size ≤ q'))) (.slice A n c) (.slice Al (n + 40) cl) (ns k) k := by
            rw [hns]
            refine ⟨own_foot hown ((Foot.refl (fun q' => q' = r) wr).setCell (p := ⟨r, k * 3 + 1, none⟩) (.inl rfl) _) hlr, fun q' hq' => ?_, A, c, rfl, hnc, reads_keep hrd (fun ad e hn0 => ?_), fun hn0 => ?_⟩
            · rcases hat with h | ⟨g, h, hge⟩
              · exact .inl (hvG q' (h ▸ hq'))
              · refine .inr ⟨rfl, hq', ?_⟩
                rw [h] at hq'; injection hq' with hq'; omega
            · obtain ⟨g, hg⟩ := HV.out.2 hn0
              rw [hg] at e
              injection e with e
              subst e
              have := (hfl k g (hvG g (by rw [hg]; rfl))).2.2.2
              exact Below.heap_setCell _ _ _ _ (fun e => this (by have e' : g = r := e; rw [e']; rfl))
            · obtain ⟨g, hg⟩ := HV.out.2 hn0
              exact ⟨g, hg, .inl (hvG g (by rw [hg]; rfl))⟩
          have hG2 := HB0.out.2.1.next (X := fun q' => (Value.slice Al (n + 40) cl).ownBlock = some q' ∧ W0.heap.size ≤ q') hfr (fun j q' hj hq' h => by
            rcases h with h | h
            · exact hj (HB0.out.1.fd j k q' hq' (hvG q' h))
            · exact (hfl j q' hq').2.2.2 (by rw [h]; rfl)) (fun j q' hq' => (hfl j q' hq').2.1) (by omega) hL3
          have HFIN := aside' (show ∃ ps' F', ps'.length = Lr ∧ Bk (wr.setCell ⟨r, k * 3 + 1, none⟩ (.slice Al (n + 40) cl)) base b (.slice (some ⟨r, 0, none⟩) Lr cr0) ps' F' ∧ Grow (wr.setCell ⟨r, k * 3 + 1, none⟩ (.slice Al (n + 40) cl)) base ps' ns F' (k + 1) ∧ Foot (fun q' => (Value.slice (some ⟨r, 0, none⟩) Lr cr0).ownBlock = some q' ∨ ∃ i, F i q') W (wr.setCell ⟨r, k * 3 + 1, none⟩ (.slice Al (n + 40) cl)) ∧ ∀ i q', F' i q' → F i q' ∨ W.heap.size ≤ q' from
            ⟨_, _, by rw [List.length_set]; exact hql, hB2, hG2, HB0.out.2.2.1.trans hfr (fun q' hq' => by
              rcases hq' with h | h
              · exact (HGF.out k q' (hvG q' h)).imp (fun h => .inr ⟨k, h⟩) id
              · rw [h]; exact .inl (.inl rfl)), fun i q' hq' => by
              rcases hq' with h | ⟨_, _, h⟩
              · exact HGF.out i q' h
              · exact .inr (Nat.le_trans HB0.out.2.2.1.size h)⟩)
          clear hown hft hrd hat hfl hvG hbl hrl0 hbk hrk s1 s2 s3 hX hfr hBk hB2 hlr hL3 hG2
          go_wp2
          go_roundw
          case rel => exact ⟨k + 1, by omega, by go_num, HFIN.out⟩
          case measure => (simp [intOf]; omega)
    · obtain rfl : k = Lr := by omega
      have g1 : decide ((k : Int) < (k : Int)) = false := decide_eq_false (by omega)
      have HF := aside' (show ∃ ps' F', ps'.length = k ∧ Bk wr base b (.slice Ar k cr0) ps' F' ∧ Grow wr base ps' ns F' k ∧ Foot (fun q => (Value.slice Ar k cr0).ownBlock = some q ∨ ∃ i, F i q) W wr from ⟨qs, G, hql, HI.out⟩)
      clear hbk hgr hft
      go_wp2
      go_end0
      exact ⟨⟨_, rfl⟩, HF.out⟩
end Go.Proofs.YtmoakgkoahjijaaGreatDoor

/- A region that draws its order, whose own operations only read: walked once, in a class of worlds that its callees stay in. -/
set_option linter.unusedVariables false
set_option linter.unusedSimpArgs false
namespace Go.Proofs.YtmoakgkoahjijaaGreatDoor
open Go.RowKit

theorem region_class {P : Program} (C : World → Prop) {id : Nat} {Q : Exit → Act → World → Prop} {a : Act} {w : World} {l : List Oper} (hm : P.follows .mixedOrders = true) (hB : Region.lexB .any l.toArray = true) (hC : C w.drew)
    (h : wpQuiet P l.toArray C (fun a' => ∀ w', C w' → Q .normal a' w') l a) : (Code.region id l.toArray true).wp P Q a w :=
  wp_region_quiet hm hB hC (by simpa using h)
end Go.Proofs.YtmoakgkoahjijaaGreatDoor

/- A book of bytes: all lists have their marks, and what was put behind each. -/
set_option linter.unusedVariables false
set_option linter.unusedSimpArgs false
namespace Go.Proofs.YtmoakgkoahjijaaGreatDoor
open Go.RowKit

set_option maxRecDepth 100000 in
set_option maxHeartbeats 3200000 in
theorem book_look (base b : Nat) (row : Value) (ps : List (Value × Value)) (ns : Nat → Nat) (F : Nat → Nat → Prop) (W : World) (h : Bk W base b row ps F) (hN : ps.length ≤ 1000000000) (hns : ∀ j, ns j ≤ 140737488355200) (h1 : Grow W base ps ns F ps.length) :
    Calls Tryz.prog 106 #[.pointer (some ⟨b, 0, none⟩)] W fun e w' => e = .returned (.bool true) ∧ Foot (fun _ => False) W w' := by
  have H0 := aside' (And.intro h h1)
  have HNS := aside' hns
  clear h h1 hns
  obtain ⟨N, hNe⟩ : ∃ N, N = ps.length := ⟨_, rfl⟩
  rw [← hNe] at hN
  have HNe := aside' hNe
  clear hNe
  go_enter Tryz.func106, Tryz.ntmps106
  go_wp2
  go_loopw [3] (fun i wr => ∃ k : Nat, k ≤ N ∧ i = .int .i64 k ∧ Aside (Foot (fun _ => False) W wr)) (fun i _ => N - (intOf i).toNat)
  case atStart => exact ⟨0, Nat.zero_le _, rfl, Foot.refl _ _⟩
  case round =>
    obtain ⟨k, hk, rfl, HI⟩ := hrel
    have hbk : Bk wr base b row ps F := H0.out.1.foot HI.out (fun h => h) (fun _ _ h => h)
    have hbc : wr.cell? ⟨b, 2, none⟩ = some row := cellOf hbk.hb 2
    obtain ⟨Ar, Lr, cr0, hrow, HLr⟩ := own_form hbk.hr
    have hLr := HLr.out.trans HNe.out.symm
    clear HLr
    subst hLr
    subst hrow
    by_cases hlt : k < Lr
    · have g1 : decide ((k : Int) < (Lr : Int)) = true := decide_eq_true (by omega)
      have g1n : decide (k < Lr) = true := decide_eq_true hlt
      obtain ⟨p, hp⟩ : ∃ p, ps[k]? = some p := ⟨_, List.getElem?_eq_getElem (by have := HNe.out; omega)⟩
      obtain ⟨r, cr, hr, hrl, hcr, e1, e2, e3⟩ := hbk.at hp
      injection hr with hr1 hr2 hr3
      subst hr1
      subst hr3
      have hL3 := ((H0.out.2 k p hp).1 (by have := HNe.out; omega)).foot HI.out (fun _ _ h => h) (fun q hq => (H0.out.1.fl k q hq).2.1)
      obtain ⟨v, lg⟩ := p
      simp only at e1 e2 hL3
      obtain ⟨hown, hlF, A, c, rfl, hnc, hrd, hA⟩ := hL3
      have hnb := HNS.out k
      obtain ⟨g, cl, rfl, hgb, hgl, hgc, _⟩ := own_some hown (by omega)
      have i0 : (0 : Int) ≤ (k : Int) := by omega
      have i1 : (k : Int) < (Lr : Int) := by omega
      have hal := (Foot.refl (fun _ => False) wr).alloc (.cells #[.slice A (ns k) c, .slice (some ⟨g, 0, none⟩) (ns k + 40) cl, .int .i64 ((k : Int) + 1)] 118)
      have HBX := aside' (heap_alloc_new wr (.cells #[.slice A (ns k) c, .slice (some ⟨g, 0, none⟩) (ns k + 40) cl, .int .i64 ((k : Int) + 1)] 118))
      have HF1 := aside' (HI.out.alloc (.cells #[.slice A (ns k) c, .slice (some ⟨g, 0, none⟩) (ns k + 40) cl, .int .i64 ((k : Int) + 1)] 118))
      have hrd1 : Reads (wr.alloc (.cells #[.slice A (ns k) c, .slice (some ⟨g, 0, none⟩) (ns k + 40) cl, .int .i64 ((k : Int) + 1)] 118)) .u8 A (ns k) (List.replicate (ns k) (mark k)) := reads_keep hrd (fun ad e hn0 => by
        obtain ⟨g2, hg2, hF2⟩ := hA hn0
        rw [hg2] at e
        injection e with e
        subst e
        have h3 := (H0.out.1.fl k g2 hF2).2.1
        have hs := HI.out.size
        exact Below.heap_alloc wr _ g2 (by omega))
      have HOW := aside' (And.intro (own_foot hown hal (fun _ _ h => h)) (And.intro hrd1 hA))
      clear hr2 hown hlF hrd hA hp hal hrd1
      generalize ns k = n at *
      go_upto_region 5 with fail
      generalize wr.alloc (.cells #[.slice A n c, .slice (some ⟨g, 0, none⟩) (n + 40) cl, .int .i64 ((k : Int) + 1)] 118) = W0 at *
      have b0 : W0.cell? ⟨wr.heap.size, 0, none⟩ = some (.slice A n c) := cellOf HBX.out 0
      have b1 : W0.cell? ⟨wr.heap.size, 1, none⟩ = some (.slice (some ⟨g, 0, none⟩) (n + 40) cl) := cellOf HBX.out 1
      have b2 : W0.cell? ⟨wr.heap.size, 2, none⟩ = some (.int .i64 ((k : Int) + 1)) := cellOf HBX.out 2
      have t1 : (((n + 40 : Nat) : Int) != (n : Int) + 40) = false := by simp
      have t2 : (((n : Int) + 40) != (n : Int) + 40) = false := by simp
      clear e1 e2 e3 hbc hbk
      generalize wr.heap.size = q at *
      go_wp2_with fail
      go_loopw [5] (fun kk wr => ∃ m : Nat, m ≤ n + 40 ∧ kk = .int .i64 m ∧ Aside (∃ d, wr = W0.drewN d)) (fun kk _ => n + 40 - (intOf kk).toNat)
      case atStart => exact ⟨0, Nat.zero_le _, rfl, 0, rfl⟩
      case round =>
        obtain ⟨m, hm, rfl, HM⟩ := hrel
        obtain ⟨dd, rfl⟩ := HM.out
        have d0 : (W0.drewN dd).cell? ⟨q, 0, none⟩ = some (.slice A n c) := b0
        have d1 : (W0.drewN dd).cell? ⟨q, 1, none⟩ = some (.slice (some ⟨g, 0, none⟩) (n + 40) cl) := b1
        have d2 : (W0.drewN dd).cell? ⟨q, 2, none⟩ = some (.int .i64 ((k : Int) + 1)) := b2
        by_cases hlt2 : m < n + 40
        · have g2 : decide ((m : Int) < ((n + 40 : Nat) : Int)) = true := decide_eq_true (by omega)
          have g3 : decide ((m : Int) < (n : Int) + 40) = true := decide_eq_true (by omega)
          have g4 : decide (m < n + 40) = true := decide_eq_true hlt2
          have hIS := fun (V : World) => is_any k (by omega) V
          have HIS := aside' hIS
          have cg : W0.cell? ⟨g, m, none⟩ = some (.int .u8 (mark k)) := by
            rw [own_at HOW.out.1 m hlt2]
            simp [List.getD_eq_getElem?_getD, List.getElem?_replicate, hlt2]
          have j0 : (0 : Int) ≤ (m : Int) := by omega
          have j1 : (m : Int) < (n : Int) + 40 := by omega
          have j2 : (m : Int) < ((n + 40 : Nat) : Int) := by omega
          clear hIS HM
          by_cases hlt3 : m < n
          · have g5 : decide ((m : Int) < (n : Int)) = true := decide_eq_true (by omega)
            have g6 : decide (m < n) = true := decide_eq_true hlt3
            obtain ⟨gA, hgA, _⟩ := HOW.out.2.2 (by omega)
            obtain ⟨ad, had, hcs⟩ := HOW.out.2.1.2.2 (by omega)
            rw [hgA] at had
            injection had with had
            subst had
            have cA : W0.cell? ⟨gA, m, none⟩ = some (.int .u8 (mark k)) := by
              have h := hcs m hlt3
              rw [add_plain] at h
              rw [h]
              simp [List.getD_eq_getElem?_getD, List.getElem?_replicate, hlt3]
            subst hgA
            have j3 : (m : Int) < (n : Int) := by omega
            clear hcs
            generalize mark k = mk at *
            go_wp2_with fail
            refine region_class (fun V => ∃ e, V = W0.drewN e) (by kernel_rfl) (by kernel_rfl) ⟨dd + 1, rfl⟩ ?_
            repeat
              (first
                | go_big_quiet_skip
                | (go_big_quiet_want; first
                    | (go_big_quiet_op; go_big_quiet_on)
                    | (unfold Oper.quiet; apply Exists.intro; refine ⟨fun V hV => ?_, ?_⟩
                       · obtain ⟨ee, rfl⟩ := hV
                         go_simp
                         first
                           | with_reducible rfl
                           | (go_at_call 177; refine Calls.mono (HIS.out _) ?_; rintro e w5 ⟨he5, hw5⟩; exact ⟨he5, _, hw5⟩)
                       go_simp
                       go_big_quiet_on)))
            refine wpQuiet_nil ?_
            rintro V ⟨ee, rfl⟩
            go_wp2
            go_roundw
            case rel => exact ⟨m + 1, by omega, by go_num, _, rfl⟩
            case measure => (simp [intOf]; omega)
          · have g5 : decide ((m : Int) < (n : Int)) = false := decide_eq_false (by omega)
            have g6 : decide (m < n) = false := decide_eq_false hlt3
            generalize mark k = mk at *
            go_wp2_with fail
            refine region_class (fun V => ∃ e, V = W0.drewN e) (by kernel_rfl) (by kernel_rfl) ⟨dd + 1, rfl⟩ ?_
            repeat
              (first
                | go_big_quiet_skip
                | (go_big_quiet_want; first
                    | (go_big_quiet_op; go_big_quiet_on)
                    | (unfold Oper.quiet; apply Exists.intro; refine ⟨fun V hV => ?_, ?_⟩
                       · obtain ⟨ee, rfl⟩ := hV
                         go_simp
                         first
                           | with_reducible rfl
                           | (go_at_call 177; refine Calls.mono (HIS.out _) ?_; rintro e w5 ⟨he5, hw5⟩; exact ⟨he5, _, hw5⟩)
                       go_simp
                       go_big_quiet_on)))
            refine wpQuiet_nil ?_
            rintro V ⟨ee, rfl⟩
            go_wp2
            go_roundw
            case rel => exact ⟨m + 1, by omega, by go_num, _, rfl⟩
            case measure => (simp [intOf]; omega)
        · obtain rfl : m = n + 40 := by omega
          have g2 : decide (((n + 40 : Nat) : Int) < ((n + 40 : Nat) : Int)) = false := decide_eq_false (by omega)
          have g3 : decide (((n + 40 : Nat) : Int) < (n : Int) + 40) = false := decide_eq_false (by omega)
          have g4 : decide ((n : Int) + 40 < (n : Int) + 40) = false := decide_eq_false (by omega)
          have HFIN := aside' (HF1.out.drewN dd)
          clear HM
          go_wp2
          go_roundw
          case rel => exact ⟨k + 1, by omega, by go_num, HFIN.out⟩
          case measure => (simp [intOf]; omega)
    · obtain rfl : k = Lr := by omega
      have g1 : decide ((k : Int) < (k : Int)) = false := decide_eq_false (by omega)
      clear hbk
      go_wp2
      go_ret
      exact ⟨rfl, HI.out⟩
end Go.Proofs.YtmoakgkoahjijaaGreatDoor

/- A book of which nothing of a kind is held: fill does nothing. -/
set_option linter.unusedVariables false
set_option linter.unusedSimpArgs false
namespace Go.Proofs.YtmoakgkoahjijaaGreatDoor
open Go.RowKit

theorem E_fillInt (b : Nat) (W : World) (h : W.cell? ⟨b, 1, none⟩ = some (.slice none 0 0)) : Calls Tryz.prog 45 #[.pointer (some ⟨b, 0, none⟩)] W fun e w' => (∃ v, e = .returned v) ∧ w' = W := by
  go_enter Tryz.func45, Tryz.ntmps45
  go_wp2
  go_loop [2] (fun i => i = .int .i64 0) (fun _ => 0)
  case atStart => rfl
  case round =>
    obtain rfl := hrel
    go_wp2
    go_end0
    exact ⟨⟨_, rfl⟩, rfl⟩
theorem E_fillKind (b : Nat) (W : World) (h : W.cell? ⟨b, 3, none⟩ = some (.slice none 0 0)) : Calls Tryz.prog 47 #[.pointer (some ⟨b, 0, none⟩)] W fun e w' => (∃ v, e = .returned v) ∧ w' = W := by
  go_enter Tryz.func47, Tryz.ntmps47
  go_wp2
  go_loop [2] (fun i => i = .int .i64 0) (fun _ => 0)
  case atStart => rfl
  case round =>
    obtain rfl := hrel
    go_wp2
    go_end0
    exact ⟨⟨_, rfl⟩, rfl⟩
theorem E_fillText (b : Nat) (W : World) (h : W.cell? ⟨b, 4, none⟩ = some (.slice none 0 0)) : Calls Tryz.prog 48 #[.pointer (some ⟨b, 0, none⟩)] W fun e w' => (∃ v, e = .returned v) ∧ w' = W := by
  go_enter Tryz.func48, Tryz.ntmps48
  go_wp2
  go_loop [2] (fun i => i = .int .i64 0) (fun _ => 0)
  case atStart => rfl
  case round =>
    obtain rfl := hrel
    go_wp2
    go_end0
    exact ⟨⟨_, rfl⟩, rfl⟩
theorem E_fillBlob (b : Nat) (W : World) (h : W.cell? ⟨b, 5, none⟩ = some (.slice none 0 0)) : Calls Tryz.prog 49 #[.pointer (some ⟨b, 0, none⟩)] W fun e w' => (∃ v, e = .returned v) ∧ w' = W := by
  go_enter Tryz.func49, Tryz.ntmps49
  go_wp2
  go_loop [2] (fun i => i = .int .i64 0) (fun _ => 0)
  case atStart => rfl
  case round =>
    obtain rfl := hrel
    go_wp2
    go_end0
    exact ⟨⟨_, rfl⟩, rfl⟩
theorem E_fillNumber (b : Nat) (W : World) (h : W.cell? ⟨b, 6, none⟩ = some (.slice none 0 0)) : Calls Tryz.prog 50 #[.pointer (some ⟨b, 0, none⟩)] W fun e w' => (∃ v, e = .returned v) ∧ w' = W := by
  go_enter Tryz.func50, Tryz.ntmps50
  go_wp2
  go_loop [2] (fun i => i = .int .i64 0) (fun _ => 0)
  case atStart => rfl
  case round =>
    obtain rfl := hrel
    go_wp2
    go_end0
    exact ⟨⟨_, rfl⟩, rfl⟩
theorem E_fillWord (b : Nat) (W : World) (h : W.cell? ⟨b, 7, none⟩ = some (.slice none 0 0)) : Calls Tryz.prog 51 #[.pointer (some ⟨b, 0, none⟩)] W fun e w' => (∃ v, e = .returned v) ∧ w' = W := by
  go_enter Tryz.func51, Tryz.ntmps51
  go_wp2
  go_loop [2] (fun i => i = .int .i64 0) (fun _ => 0)
  case atStart => rfl
  case round =>
    obtain rfl := hrel
    go_wp2
    go_end0
    exact ⟨⟨_, rfl⟩, rfl⟩
theorem E_fillField (b : Nat) (W : World) (h : W.cell? ⟨b, 8, none⟩ = some (.slice none 0 0)) : Calls Tryz.prog 52 #[.pointer (some ⟨b, 0, none⟩)] W fun e w' => (∃ v, e = .returned v) ∧ w' = W := by
  go_enter Tryz.func52, Tryz.ntmps52
  go_wp2
  go_loop [2] (fun i => i = .int .i64 0) (fun _ => 0)
  case atStart => rfl
  case round =>
    obtain rfl := hrel
    go_wp2
    go_end0
    exact ⟨⟨_, rfl⟩, rfl⟩
theorem E_fillMatch (b : Nat) (W : World) (h : W.cell? ⟨b, 9, none⟩ = some (.slice none 0 0)) : Calls Tryz.prog 53 #[.pointer (some ⟨b, 0, none⟩)] W fun e w' => (∃ v, e = .returned v) ∧ w' = W := by
  go_enter Tryz.func53, Tryz.ntmps53
  go_wp2
  go_loop [2] (fun i => i = .int .i64 0) (fun _ => 0)
  case atStart => rfl
  case round =>
    obtain rfl := hrel
    go_wp2
    go_end0
    exact ⟨⟨_, rfl⟩, rfl⟩
theorem E_fillArr (b : Nat) (W : World) (h : W.cell? ⟨b, 10, none⟩ = some (.slice none 0 0)) : Calls Tryz.prog 54 #[.pointer (some ⟨b, 0, none⟩)] W fun e w' => (∃ v, e = .returned v) ∧ w' = W := by
  go_enter Tryz.func54, Tryz.ntmps54
  go_wp2
  go_loop [2] (fun i => i = .int .i64 0) (fun _ => 0)
  case atStart => rfl
  case round =>
    obtain rfl := hrel
    go_wp2
    go_end0
    exact ⟨⟨_, rfl⟩, rfl⟩
theorem E_fillCase (b : Nat) (W : World) (h : W.cell? ⟨b, 11, none⟩ = some (.slice none 0 0)) : Calls Tryz.prog 55 #[.pointer (some ⟨b, 0, none⟩)] W fun e w' => (∃ v, e = .returned v) ∧ w' = W := by
  go_enter Tryz.func55, Tryz.ntmps55
  go_wp2
  go_loop [2] (fun i => i = .int .i64 0) (fun _ => 0)
  case atStart => rfl
  case round =>
    obtain rfl := hrel
    go_wp2
    go_end0
    exact ⟨⟨_, rfl⟩, rfl⟩
theorem E_fillJump (b : Nat) (W : World) (h : W.cell? ⟨b, 12, none⟩ = some (.slice none 0 0)) : Calls Tryz.prog 56 #[.pointer (some ⟨b, 0, none⟩)] W fun e w' => (∃ v, e = .returned v) ∧ w' = W := by
  go_enter Tryz.func56, Tryz.ntmps56
  go_wp2
  go_loop [2] (fun i => i = .int .i64 0) (fun _ => 0)
  case atStart => rfl
  case round =>
    obtain rfl := hrel
    go_wp2
    go_end0
    exact ⟨⟨_, rfl⟩, rfl⟩
theorem E_fillExpr (b : Nat) (W : World) (h : W.cell? ⟨b, 13, none⟩ = some (.slice none 0 0)) : Calls Tryz.prog 57 #[.pointer (some ⟨b, 0, none⟩)] W fun e w' => (∃ v, e = .returned v) ∧ w' = W := by
  go_enter Tryz.func57, Tryz.ntmps57
  go_wp2
  go_loop [2] (fun i => i = .int .i64 0) (fun _ => 0)
  case atStart => rfl
  case round =>
    obtain rfl := hrel
    go_wp2
    go_end0
    exact ⟨⟨_, rfl⟩, rfl⟩
theorem E_fillStmt (b : Nat) (W : World) (h : W.cell? ⟨b, 14, none⟩ = some (.slice none 0 0)) : Calls Tryz.prog 58 #[.pointer (some ⟨b, 0, none⟩)] W fun e w' => (∃ v, e = .returned v) ∧ w' = W := by
  go_enter Tryz.func58, Tryz.ntmps58
  go_wp2
  go_loop [2] (fun i => i = .int .i64 0) (fun _ => 0)
  case atStart => rfl
  case round =>
    obtain rfl := hrel
    go_wp2
    go_end0
    exact ⟨⟨_, rfl⟩, rfl⟩
theorem E_fillState (b : Nat) (W : World) (h : W.cell? ⟨b, 15, none⟩ = some (.slice none 0 0)) : Calls Tryz.prog 59 #[.pointer (some ⟨b, 0, none⟩)] W fun e w' => (∃ v, e = .returned v) ∧ w' = W := by
  go_enter Tryz.func59, Tryz.ntmps59
  go_wp2
  go_loop [2] (fun i => i = .int .i64 0) (fun _ => 0)
  case atStart => rfl
  case round =>
    obtain rfl := hrel
    go_wp2
    go_end0
    exact ⟨⟨_, rfl⟩, rfl⟩
theorem E_fillKey (b : Nat) (W : World) (h : W.cell? ⟨b, 16, none⟩ = some (.slice none 0 0)) : Calls Tryz.prog 60 #[.pointer (some ⟨b, 0, none⟩)] W fun e w' => (∃ v, e = .returned v) ∧ w' = W := by
  go_enter Tryz.func60, Tryz.ntmps60
  go_wp2
  go_loop [2] (fun i => i = .int .i64 0) (fun _ => 0)
  case atStart => rfl
  case round =>
    obtain rfl := hrel
    go_wp2
    go_end0
    exact ⟨⟨_, rfl⟩, rfl⟩
theorem E_fillDecl (b : Nat) (W : World) (h : W.cell? ⟨b, 17, none⟩ = some (.slice none 0 0)) : Calls Tryz.prog 61 #[.pointer (some ⟨b, 0, none⟩)] W fun e w' => (∃ v, e = .returned v) ∧ w' = W := by
  go_enter Tryz.func61, Tryz.ntmps61
  go_wp2
  go_loop [2] (fun i => i = .int .i64 0) (fun _ => 0)
  case atStart => rfl
  case round =>
    obtain rfl := hrel
    go_wp2
    go_end0
    exact ⟨⟨_, rfl⟩, rfl⟩
theorem E_fillEntry (b : Nat) (W : World) (h : W.cell? ⟨b, 18, none⟩ = some (.slice none 0 0)) : Calls Tryz.prog 62 #[.pointer (some ⟨b, 0, none⟩)] W fun e w' => (∃ v, e = .returned v) ∧ w' = W := by
  go_enter Tryz.func62, Tryz.ntmps62
  go_wp2
  go_loop [2] (fun i => i = .int .i64 0) (fun _ => 0)
  case atStart => rfl
  case round =>
    obtain rfl := hrel
    go_wp2
    go_end0
    exact ⟨⟨_, rfl⟩, rfl⟩
theorem E_fillGroup (b : Nat) (W : World) (h : W.cell? ⟨b, 19, none⟩ = some (.slice none 0 0)) : Calls Tryz.prog 63 #[.pointer (some ⟨b, 0, none⟩)] W fun e w' => (∃ v, e = .returned v) ∧ w' = W := by
  go_enter Tryz.func63, Tryz.ntmps63
  go_wp2
  go_loop [2] (fun i => i = .int .i64 0) (fun _ => 0)
  case atStart => rfl
  case round =>
    obtain rfl := hrel
    go_wp2
    go_end0
    exact ⟨⟨_, rfl⟩, rfl⟩
theorem E_fillHead (b : Nat) (W : World) (h : W.cell? ⟨b, 20, none⟩ = some (.slice none 0 0)) : Calls Tryz.prog 64 #[.pointer (some ⟨b, 0, none⟩)] W fun e w' => (∃ v, e = .returned v) ∧ w' = W := by
  go_enter Tryz.func64, Tryz.ntmps64
  go_wp2
  go_loop [2] (fun i => i = .int .i64 0) (fun _ => 0)
  case atStart => rfl
  case round =>
    obtain rfl := hrel
    go_wp2
    go_end0
    exact ⟨⟨_, rfl⟩, rfl⟩
theorem E_fillNode (b : Nat) (W : World) (h : W.cell? ⟨b, 21, none⟩ = some (.slice none 0 0)) : Calls Tryz.prog 65 #[.pointer (some ⟨b, 0, none⟩)] W fun e w' => (∃ v, e = .returned v) ∧ w' = W := by
  go_enter Tryz.func65, Tryz.ntmps65
  go_wp2
  go_loop [2] (fun i => i = .int .i64 0) (fun _ => 0)
  case atStart => rfl
  case round =>
    obtain rfl := hrel
    go_wp2
    go_end0
    exact ⟨⟨_, rfl⟩, rfl⟩
theorem E_fillAct (b : Nat) (W : World) (h : W.cell? ⟨b, 22, none⟩ = some (.slice none 0 0)) : Calls Tryz.prog 66 #[.pointer (some ⟨b, 0, none⟩)] W fun e w' => (∃ v, e = .returned v) ∧ w' = W := by
  go_enter Tryz.func66, Tryz.ntmps66
  go_wp2
  go_loop [2] (fun i => i = .int .i64 0) (fun _ => 0)
  case atStart => rfl
  case round =>
    obtain rfl := hrel
    go_wp2
    go_end0
    exact ⟨⟨_, rfl⟩, rfl⟩
theorem E_fillTable (b : Nat) (W : World) (h : W.cell? ⟨b, 23, none⟩ = some (.slice none 0 0)) : Calls Tryz.prog 67 #[.pointer (some ⟨b, 0, none⟩)] W fun e w' => (∃ v, e = .returned v) ∧ w' = W := by
  go_enter Tryz.func67, Tryz.ntmps67
  go_wp2
  go_loop [2] (fun i => i = .int .i64 0) (fun _ => 0)
  case atStart => rfl
  case round =>
    obtain rfl := hrel
    go_wp2
    go_end0
    exact ⟨⟨_, rfl⟩, rfl⟩
theorem E_fillIns (b : Nat) (W : World) (h : W.cell? ⟨b, 24, none⟩ = some (.slice none 0 0)) : Calls Tryz.prog 68 #[.pointer (some ⟨b, 0, none⟩)] W fun e w' => (∃ v, e = .returned v) ∧ w' = W := by
  go_enter Tryz.func68, Tryz.ntmps68
  go_wp2
  go_loop [2] (fun i => i = .int .i64 0) (fun _ => 0)
  case atStart => rfl
  case round =>
    obtain rfl := hrel
    go_wp2
    go_end0
    exact ⟨⟨_, rfl⟩, rfl⟩
theorem E_fillEffect (b : Nat) (W : World) (h : W.cell? ⟨b, 25, none⟩ = some (.slice none 0 0)) : Calls Tryz.prog 69 #[.pointer (some ⟨b, 0, none⟩)] W fun e w' => (∃ v, e = .returned v) ∧ w' = W := by
  go_enter Tryz.func69, Tryz.ntmps69
  go_wp2
  go_loop [2] (fun i => i = .int .i64 0) (fun _ => 0)
  case atStart => rfl
  case round =>
    obtain rfl := hrel
    go_wp2
    go_end0
    exact ⟨⟨_, rfl⟩, rfl⟩
theorem E_fillUpdate (b : Nat) (W : World) (h : W.cell? ⟨b, 26, none⟩ = some (.slice none 0 0)) : Calls Tryz.prog 70 #[.pointer (some ⟨b, 0, none⟩)] W fun e w' => (∃ v, e = .returned v) ∧ w' = W := by
  go_enter Tryz.func70, Tryz.ntmps70
  go_wp2
  go_loop [2] (fun i => i = .int .i64 0) (fun _ => 0)
  case atStart => rfl
  case round =>
    obtain rfl := hrel
    go_wp2
    go_end0
    exact ⟨⟨_, rfl⟩, rfl⟩
theorem E_fillEvent (b : Nat) (W : World) (h : W.cell? ⟨b, 27, none⟩ = some (.slice none 0 0)) : Calls Tryz.prog 71 #[.pointer (some ⟨b, 0, none⟩)] W fun e w' => (∃ v, e = .returned v) ∧ w' = W := by
  go_enter Tryz.func71, Tryz.ntmps71
  go_wp2
  go_loop [2] (fun i => i = .int .i64 0) (fun _ => 0)
  case atStart => rfl
  case round =>
    obtain rfl := hrel
    go_wp2
    go_end0
    exact ⟨⟨_, rfl⟩, rfl⟩
theorem E_fillOut (b : Nat) (W : World) (h : W.cell? ⟨b, 28, none⟩ = some (.slice none 0 0)) : Calls Tryz.prog 72 #[.pointer (some ⟨b, 0, none⟩)] W fun e w' => (∃ v, e = .returned v) ∧ w' = W := by
  go_enter Tryz.func72, Tryz.ntmps72
  go_wp2
  go_loop [2] (fun i => i = .int .i64 0) (fun _ => 0)
  case atStart => rfl
  case round =>
    obtain rfl := hrel
    go_wp2
    go_end0
    exact ⟨⟨_, rfl⟩, rfl⟩
theorem E_fillRow (b : Nat) (W : World) (h : W.cell? ⟨b, 29, none⟩ = some (.slice none 0 0)) : Calls Tryz.prog 73 #[.pointer (some ⟨b, 0, none⟩)] W fun e w' => (∃ v, e = .returned v) ∧ w' = W := by
  go_enter Tryz.func73, Tryz.ntmps73
  go_wp2
  go_loop [2] (fun i => i = .int .i64 0) (fun _ => 0)
  case atStart => rfl
  case round =>
    obtain rfl := hrel
    go_wp2
    go_end0
    exact ⟨⟨_, rfl⟩, rfl⟩
theorem E_fillArray (b : Nat) (W : World) (h : W.cell? ⟨b, 30, none⟩ = some (.slice none 0 0)) : Calls Tryz.prog 74 #[.pointer (some ⟨b, 0, none⟩)] W fun e w' => (∃ v, e = .returned v) ∧ w' = W := by
  go_enter Tryz.func74, Tryz.ntmps74
  go_wp2
  go_loop [2] (fun i => i = .int .i64 0) (fun _ => 0)
  case atStart => rfl
  case round =>
    obtain rfl := hrel
    go_wp2
    go_end0
    exact ⟨⟨_, rfl⟩, rfl⟩
end Go.Proofs.YtmoakgkoahjijaaGreatDoor

/- A book of which nothing of a kind is held: grow does nothing. -/
set_option linter.unusedVariables false
set_option linter.unusedSimpArgs false
namespace Go.Proofs.YtmoakgkoahjijaaGreatDoor
open Go.RowKit

theorem E_growInt (b : Nat) (W : World) (h : W.cell? ⟨b, 1, none⟩ = some (.slice none 0 0)) : Calls Tryz.prog 75 #[.pointer (some ⟨b, 0, none⟩)] W fun e w' => (∃ v, e = .returned v) ∧ w' = W := by
  go_enter Tryz.func75, Tryz.ntmps75
  go_wp2
  go_loop [2] (fun i => i = .int .i64 0) (fun _ => 0)
  case atStart => rfl
  case round =>
    obtain rfl := hrel
    go_wp2
    go_end0
    exact ⟨⟨_, rfl⟩, rfl⟩
theorem E_growKind (b : Nat) (W : World) (h : W.cell? ⟨b, 3, none⟩ = some (.slice none 0 0)) : Calls Tryz.prog 77 #[.pointer (some ⟨b, 0, none⟩)] W fun e w' => (∃ v, e = .returned v) ∧ w' = W := by
  go_enter Tryz.func77, Tryz.ntmps77
  go_wp2
  go_loop [2] (fun i => i = .int .i64 0) (fun _ => 0)
  case atStart => rfl
  case round =>
    obtain rfl := hrel
    go_wp2
    go_end0
    exact ⟨⟨_, rfl⟩, rfl⟩
theorem E_growText (b : Nat) (W : World) (h : W.cell? ⟨b, 4, none⟩ = some (.slice none 0 0)) : Calls Tryz.prog 78 #[.pointer (some ⟨b, 0, none⟩)] W fun e w' => (∃ v, e = .returned v) ∧ w' = W := by
  go_enter Tryz.func78, Tryz.ntmps78
  go_wp2
  go_loop [2] (fun i => i = .int .i64 0) (fun _ => 0)
  case atStart => rfl
  case round =>
    obtain rfl := hrel
    go_wp2
    go_end0
    exact ⟨⟨_, rfl⟩, rfl⟩
theorem E_growBlob (b : Nat) (W : World) (h : W.cell? ⟨b, 5, none⟩ = some (.slice none 0 0)) : Calls Tryz.prog 79 #[.pointer (some ⟨b, 0, none⟩)] W fun e w' => (∃ v, e = .returned v) ∧ w' = W := by
  go_enter Tryz.func79, Tryz.ntmps79
  go_wp2
  go_loop [2] (fun i => i = .int .i64 0) (fun _ => 0)
  case atStart => rfl
  case round =>
    obtain rfl := hrel
    go_wp2
    go_end0
    exact ⟨⟨_, rfl⟩, rfl⟩
theorem E_growNumber (b : Nat) (W : World) (h : W.cell? ⟨b, 6, none⟩ = some (.slice none 0 0)) : Calls Tryz.prog 80 #[.pointer (some ⟨b, 0, none⟩)] W fun e w' => (∃ v, e = .returned v) ∧ w' = W := by
  go_enter Tryz.func80, Tryz.ntmps80
  go_wp2
  go_loop [2] (fun i => i = .int .i64 0) (fun _ => 0)
  case atStart => rfl
  case round =>
    obtain rfl := hrel
    go_wp2
    go_end0
    exact ⟨⟨_, rfl⟩, rfl⟩
theorem E_growWord (b : Nat) (W : World) (h : W.cell? ⟨b, 7, none⟩ = some (.slice none 0 0)) : Calls Tryz.prog 81 #[.pointer (some ⟨b, 0, none⟩)] W fun e w' => (∃ v, e = .returned v) ∧ w' = W := by
  go_enter Tryz.func81, Tryz.ntmps81
  go_wp2
  go_loop [2] (fun i => i = .int .i64 0) (fun _ => 0)
  case atStart => rfl
  case round =>
    obtain rfl := hrel
    go_wp2
    go_end0
    exact ⟨⟨_, rfl⟩, rfl⟩
theorem E_growField (b : Nat) (W : World) (h : W.cell? ⟨b, 8, none⟩ = some (.slice none 0 0)) : Calls Tryz.prog 82 #[.pointer (some ⟨b, 0, none⟩)] W fun e w' => (∃ v, e = .returned v) ∧ w' = W := by
  go_enter Tryz.func82, Tryz.ntmps82
  go_wp2
  go_loop [2] (fun i => i = .int .i64 0) (fun _ => 0)
  case atStart => rfl
  case round =>
    obtain rfl := hrel
    go_wp2
    go_end0
    exact ⟨⟨_, rfl⟩, rfl⟩
theorem E_growMatch (b : Nat) (W : World) (h : W.cell? ⟨b, 9, none⟩ = some (.slice none 0 0)) : Calls Tryz.prog 83 #[.pointer (some ⟨b, 0, none⟩)] W fun e w' => (∃ v, e = .returned v) ∧ w' = W := by
  go_enter Tryz.func83, Tryz.ntmps83
  go_wp2
  go_loop [2] (fun i => i = .int .i64 0) (fun _ => 0)
  case atStart => rfl
  case round =>
    obtain rfl := hrel
    go_wp2
    go_end0
    exact ⟨⟨_, rfl⟩, rfl⟩
theorem E_growArr (b : Nat) (W : World) (h : W.cell? ⟨b, 10, none⟩ = some (.slice none 0 0)) : Calls Tryz.prog 84 #[.pointer (some ⟨b, 0, none⟩)] W fun e w' => (∃ v, e = .returned v) ∧ w' = W := by
  go_enter Tryz.func84, Tryz.ntmps84
  go_wp2
  go_loop [2] (fun i => i = .int .i64 0) (fun _ => 0)
  case atStart => rfl
  case round =>
    obtain rfl := hrel
    go_wp2
    go_end0
    exact ⟨⟨_, rfl⟩, rfl⟩
theorem E_growCase (b : Nat) (W : World) (h : W.cell? ⟨b, 11, none⟩ = some (.slice none 0 0)) : Calls Tryz.prog 85 #[.pointer (some ⟨b, 0, none⟩)] W fun e w' => (∃ v, e = .returned v) ∧ w' = W := by
  go_enter Tryz.func85, Tryz.ntmps85
  go_wp2
  go_loop [2] (fun i => i = .int .i64 0) (fun _ => 0)
  case atStart => rfl
  case round =>
    obtain rfl := hrel
    go_wp2
    go_end0
    exact ⟨⟨_, rfl⟩, rfl⟩
theorem E_growJump (b : Nat) (W : World) (h : W.cell? ⟨b, 12, none⟩ = some (.slice none 0 0)) : Calls Tryz.prog 86 #[.pointer (some ⟨b, 0, none⟩)] W fun e w' => (∃ v, e = .returned v) ∧ w' = W := by
  go_enter Tryz.func86, Tryz.ntmps86
  go_wp2
  go_loop [2] (fun i => i = .int .i64 0) (fun _ => 0)
  case atStart => rfl
  case round =>
    obtain rfl := hrel
    go_wp2
    go_end0
    exact ⟨⟨_, rfl⟩, rfl⟩
theorem E_growExpr (b : Nat) (W : World) (h : W.cell? ⟨b, 13, none⟩ = some (.slice none 0 0)) : Calls Tryz.prog 87 #[.pointer (some ⟨b, 0, none⟩)] W fun e w' => (∃ v, e = .returned v) ∧ w' = W := by
  go_enter Tryz.func87, Tryz.ntmps87
  go_wp2
  go_loop [2] (fun i => i = .int .i64 0) (fun _ => 0)
  case atStart => rfl
  case round =>
    obtain rfl := hrel
    go_wp2
    go_end0
    exact ⟨⟨_, rfl⟩, rfl⟩
theorem E_growStmt (b : Nat) (W : World) (h : W.cell? ⟨b, 14, none⟩ = some (.slice none 0 0)) : Calls Tryz.prog 88 #[.pointer (some ⟨b, 0, none⟩)] W fun e w' => (∃ v, e = .returned v) ∧ w' = W := by
  go_enter Tryz.func88, Tryz.ntmps88
  go_wp2
  go_loop [2] (fun i => i = .int .i64 0) (fun _ => 0)
  case atStart => rfl
  case round =>
    obtain rfl := hrel
    go_wp2
    go_end0
    exact ⟨⟨_, rfl⟩, rfl⟩
theorem E_growState (b : Nat) (W : World) (h : W.cell? ⟨b, 15, none⟩ = some (.slice none 0 0)) : Calls Tryz.prog 89 #[.pointer (some ⟨b, 0, none⟩)] W fun e w' => (∃ v, e = .returned v) ∧ w' = W := by
  go_enter Tryz.func89, Tryz.ntmps89
  go_wp2
  go_loop [2] (fun i => i = .int .i64 0) (fun _ => 0)
  case atStart => rfl
  case round =>
    obtain rfl := hrel
    go_wp2
    go_end0
    exact ⟨⟨_, rfl⟩, rfl⟩
theorem E_growKey (b : Nat) (W : World) (h : W.cell? ⟨b, 16, none⟩ = some (.slice none 0 0)) : Calls Tryz.prog 90 #[.pointer (some ⟨b, 0, none⟩)] W fun e w' => (∃ v, e = .returned v) ∧ w' = W := by
  go_enter Tryz.func90, Tryz.ntmps90
  go_wp2
  go_loop [2] (fun i => i = .int .i64 0) (fun _ => 0)
  case atStart => rfl
  case round =>
    obtain rfl := hrel
    go_wp2
    go_end0
    exact ⟨⟨_, rfl⟩, rfl⟩
theorem E_growDecl (b : Nat) (W : World) (h : W.cell? ⟨b, 17, none⟩ = some (.slice none 0 0)) : Calls Tryz.prog 91 #[.pointer (some ⟨b, 0, none⟩)] W fun e w' => (∃ v, e = .returned v) ∧ w' = W := by
  go_enter Tryz.func91, Tryz.ntmps91
  go_wp2
  go_loop [2] (fun i => i = .int .i64 0) (fun _ => 0)
  case atStart => rfl
  case round =>
    obtain rfl := hrel
    go_wp2
    go_end0
    exact ⟨⟨_, rfl⟩, rfl⟩
theorem E_growEntry (b : Nat) (W : World) (h : W.cell? ⟨b, 18, none⟩ = some (.slice none 0 0)) : Calls Tryz.prog 92 #[.pointer (some ⟨b, 0, none⟩)] W fun e w' => (∃ v, e = .returned v) ∧ w' = W := by
  go_enter Tryz.func92, Tryz.ntmps92
  go_wp2
  go_loop [2] (fun i => i = .int .i64 0) (fun _ => 0)
  case atStart => rfl
  case round =>
    obtain rfl := hrel
    go_wp2
    go_end0
    exact ⟨⟨_, rfl⟩, rfl⟩
theorem E_growGroup (b : Nat) (W : World) (h : W.cell? ⟨b, 19, none⟩ = some (.slice none 0 0)) : Calls Tryz.prog 93 #[.pointer (some ⟨b, 0, none⟩)] W fun e w' => (∃ v, e = .returned v) ∧ w' = W := by
  go_enter Tryz.func93, Tryz.ntmps93
  go_wp2
  go_loop [2] (fun i => i = .int .i64 0) (fun _ => 0)
  case atStart => rfl
  case round =>
    obtain rfl := hrel
    go_wp2
    go_end0
    exact ⟨⟨_, rfl⟩, rfl⟩
theorem E_growHead (b : Nat) (W : World) (h : W.cell? ⟨b, 20, none⟩ = some (.slice none 0 0)) : Calls Tryz.prog 94 #[.pointer (some ⟨b, 0, none⟩)] W fun e w' => (∃ v, e = .returned v) ∧ w' = W := by
  go_enter Tryz.func94, Tryz.ntmps94
  go_wp2
  go_loop [2] (fun i => i = .int .i64 0) (fun _ => 0)
  case atStart => rfl
  case round =>
    obtain rfl := hrel
    go_wp2
    go_end0
    exact ⟨⟨_, rfl⟩, rfl⟩
theorem E_growNode (b : Nat) (W : World) (h : W.cell? ⟨b, 21, none⟩ = some (.slice none 0 0)) : Calls Tryz.prog 95 #[.pointer (some ⟨b, 0, none⟩)] W fun e w' => (∃ v, e = .returned v) ∧ w' = W := by
  go_enter Tryz.func95, Tryz.ntmps95
  go_wp2
  go_loop [2] (fun i => i = .int .i64 0) (fun _ => 0)
  case atStart => rfl
  case round =>
    obtain rfl := hrel
    go_wp2
    go_end0
    exact ⟨⟨_, rfl⟩, rfl⟩
theorem E_growAct (b : Nat) (W : World) (h : W.cell? ⟨b, 22, none⟩ = some (.slice none 0 0)) : Calls Tryz.prog 96 #[.pointer (some ⟨b, 0, none⟩)] W fun e w' => (∃ v, e = .returned v) ∧ w' = W := by
  go_enter Tryz.func96, Tryz.ntmps96
  go_wp2
  go_loop [2] (fun i => i = .int .i64 0) (fun _ => 0)
  case atStart => rfl
  case round =>
    obtain rfl := hrel
    go_wp2
    go_end0
    exact ⟨⟨_, rfl⟩, rfl⟩
theorem E_growTable (b : Nat) (W : World) (h : W.cell? ⟨b, 23, none⟩ = some (.slice none 0 0)) : Calls Tryz.prog 97 #[.pointer (some ⟨b, 0, none⟩)] W fun e w' => (∃ v, e = .returned v) ∧ w' = W := by
  go_enter Tryz.func97, Tryz.ntmps97
  go_wp2
  go_loop [2] (fun i => i = .int .i64 0) (fun _ => 0)
  case atStart => rfl
  case round =>
    obtain rfl := hrel
    go_wp2
    go_end0
    exact ⟨⟨_, rfl⟩, rfl⟩
theorem E_growIns (b : Nat) (W : World) (h : W.cell? ⟨b, 24, none⟩ = some (.slice none 0 0)) : Calls Tryz.prog 98 #[.pointer (some ⟨b, 0, none⟩)] W fun e w' => (∃ v, e = .returned v) ∧ w' = W := by
  go_enter Tryz.func98, Tryz.ntmps98
  go_wp2
  go_loop [2] (fun i => i = .int .i64 0) (fun _ => 0)
  case atStart => rfl
  case round =>
    obtain rfl := hrel
    go_wp2
    go_end0
    exact ⟨⟨_, rfl⟩, rfl⟩
theorem E_growEffect (b : Nat) (W : World) (h : W.cell? ⟨b, 25, none⟩ = some (.slice none 0 0)) : Calls Tryz.prog 99 #[.pointer (some ⟨b, 0, none⟩)] W fun e w' => (∃ v, e = .returned v) ∧ w' = W := by
  go_enter Tryz.func99, Tryz.ntmps99
  go_wp2
  go_loop [2] (fun i => i = .int .i64 0) (fun _ => 0)
  case atStart => rfl
  case round =>
    obtain rfl := hrel
    go_wp2
    go_end0
    exact ⟨⟨_, rfl⟩, rfl⟩
theorem E_growUpdate (b : Nat) (W : World) (h : W.cell? ⟨b, 26, none⟩ = some (.slice none 0 0)) : Calls Tryz.prog 100 #[.pointer (some ⟨b, 0, none⟩)] W fun e w' => (∃ v, e = .returned v) ∧ w' = W := by
  go_enter Tryz.func100, Tryz.ntmps100
  go_wp2
  go_loop [2] (fun i => i = .int .i64 0) (fun _ => 0)
  case atStart => rfl
  case round =>
    obtain rfl := hrel
    go_wp2
    go_end0
    exact ⟨⟨_, rfl⟩, rfl⟩
theorem E_growEvent (b : Nat) (W : World) (h : W.cell? ⟨b, 27, none⟩ = some (.slice none 0 0)) : Calls Tryz.prog 101 #[.pointer (some ⟨b, 0, none⟩)] W fun e w' => (∃ v, e = .returned v) ∧ w' = W := by
  go_enter Tryz.func101, Tryz.ntmps101
  go_wp2
  go_loop [2] (fun i => i = .int .i64 0) (fun _ => 0)
  case atStart => rfl
  case round =>
    obtain rfl := hrel
    go_wp2
    go_end0
    exact ⟨⟨_, rfl⟩, rfl⟩
theorem E_growOut (b : Nat) (W : World) (h : W.cell? ⟨b, 28, none⟩ = some (.slice none 0 0)) : Calls Tryz.prog 102 #[.pointer (some ⟨b, 0, none⟩)] W fun e w' => (∃ v, e = .returned v) ∧ w' = W := by
  go_enter Tryz.func102, Tryz.ntmps102
  go_wp2
  go_loop [2] (fun i => i = .int .i64 0) (fun _ => 0)
  case atStart => rfl
  case round =>
    obtain rfl := hrel
    go_wp2
    go_end0
    exact ⟨⟨_, rfl⟩, rfl⟩
theorem E_growRow (b : Nat) (W : World) (h : W.cell? ⟨b, 29, none⟩ = some (.slice none 0 0)) : Calls Tryz.prog 103 #[.pointer (some ⟨b, 0, none⟩)] W fun e w' => (∃ v, e = .returned v) ∧ w' = W := by
  go_enter Tryz.func103, Tryz.ntmps103
  go_wp2
  go_loop [2] (fun i => i = .int .i64 0) (fun _ => 0)
  case atStart => rfl
  case round =>
    obtain rfl := hrel
    go_wp2
    go_end0
    exact ⟨⟨_, rfl⟩, rfl⟩
theorem E_growArray (b : Nat) (W : World) (h : W.cell? ⟨b, 30, none⟩ = some (.slice none 0 0)) : Calls Tryz.prog 104 #[.pointer (some ⟨b, 0, none⟩)] W fun e w' => (∃ v, e = .returned v) ∧ w' = W := by
  go_enter Tryz.func104, Tryz.ntmps104
  go_wp2
  go_loop [2] (fun i => i = .int .i64 0) (fun _ => 0)
  case atStart => rfl
  case round =>
    obtain rfl := hrel
    go_wp2
    go_end0
    exact ⟨⟨_, rfl⟩, rfl⟩
end Go.Proofs.YtmoakgkoahjijaaGreatDoor

/- A book of which nothing of a kind is held: look does nothing. -/
set_option linter.unusedVariables false
set_option linter.unusedSimpArgs false
namespace Go.Proofs.YtmoakgkoahjijaaGreatDoor
open Go.RowKit

theorem E_lookInt (b : Nat) (W : World) (h : W.cell? ⟨b, 1, none⟩ = some (.slice none 0 0)) : Calls Tryz.prog 105 #[.pointer (some ⟨b, 0, none⟩)] W fun e w' => e = .returned (.bool true) ∧ w' = W := by
  go_enter Tryz.func105, Tryz.ntmps105
  go_wp2
  go_loop [3] (fun i => i = .int .i64 0) (fun _ => 0)
  case atStart => rfl
  case round =>
    obtain rfl := hrel
    go_wp2
    go_ret
    exact ⟨rfl, rfl⟩
theorem E_lookKind (b : Nat) (W : World) (h : W.cell? ⟨b, 3, none⟩ = some (.slice none 0 0)) : Calls Tryz.prog 107 #[.pointer (some ⟨b, 0, none⟩)] W fun e w' => e = .returned (.bool true) ∧ w' = W := by
  go_enter Tryz.func107, Tryz.ntmps107
  go_wp2
  go_loop [3] (fun i => i = .int .i64 0) (fun _ => 0)
  case atStart => rfl
  case round =>
    obtain rfl := hrel
    go_wp2
    go_ret
    exact ⟨rfl, rfl⟩
theorem E_lookText (b : Nat) (W : World) (h : W.cell? ⟨b, 4, none⟩ = some (.slice none 0 0)) : Calls Tryz.prog 108 #[.pointer (some ⟨b, 0, none⟩)] W fun e w' => e = .returned (.bool true) ∧ w' = W := by
  go_enter Tryz.func108, Tryz.ntmps108
  go_wp2
  go_loop [3] (fun i => i = .int .i64 0) (fun _ => 0)
  case atStart => rfl
  case round =>
    obtain rfl := hrel
    go_wp2
    go_ret
    exact ⟨rfl, rfl⟩
theorem E_lookBlob (b : Nat) (W : World) (h : W.cell? ⟨b, 5, none⟩ = some (.slice none 0 0)) : Calls Tryz.prog 109 #[.pointer (some ⟨b, 0, none⟩)] W fun e w' => e = .returned (.bool true) ∧ w' = W := by
  go_enter Tryz.func109, Tryz.ntmps109
  go_wp2
  go_loop [3] (fun i => i = .int .i64 0) (fun _ => 0)
  case atStart => rfl
  case round =>
    obtain rfl := hrel
    go_wp2
    go_ret
    exact ⟨rfl, rfl⟩
theorem E_lookNumber (b : Nat) (W : World) (h : W.cell? ⟨b, 6, none⟩ = some (.slice none 0 0)) : Calls Tryz.prog 110 #[.pointer (some ⟨b, 0, none⟩)] W fun e w' => e = .returned (.bool true) ∧ w' = W := by
  go_enter Tryz.func110, Tryz.ntmps110
  go_wp2
  go_loop [3] (fun i => i = .int .i64 0) (fun _ => 0)
  case atStart => rfl
  case round =>
    obtain rfl := hrel
    go_wp2
    go_ret
    exact ⟨rfl, rfl⟩
theorem E_lookWord (b : Nat) (W : World) (h : W.cell? ⟨b, 7, none⟩ = some (.slice none 0 0)) : Calls Tryz.prog 111 #[.pointer (some ⟨b, 0, none⟩)] W fun e w' => e = .returned (.bool true) ∧ w' = W := by
  go_enter Tryz.func111, Tryz.ntmps111
  go_wp2
  go_loop [3] (fun i => i = .int .i64 0) (fun _ => 0)
  case atStart => rfl
  case round =>
    obtain rfl := hrel
    go_wp2
    go_ret
    exact ⟨rfl, rfl⟩
theorem E_lookField (b : Nat) (W : World) (h : W.cell? ⟨b, 8, none⟩ = some (.slice none 0 0)) : Calls Tryz.prog 112 #[.pointer (some ⟨b, 0, none⟩)] W fun e w' => e = .returned (.bool true) ∧ w' = W := by
  go_enter Tryz.func112, Tryz.ntmps112
  go_wp2
  go_loop [3] (fun i => i = .int .i64 0) (fun _ => 0)
  case atStart => rfl
  case round =>
    obtain rfl := hrel
    go_wp2
    go_ret
    exact ⟨rfl, rfl⟩
theorem E_lookMatch (b : Nat) (W : World) (h : W.cell? ⟨b, 9, none⟩ = some (.slice none 0 0)) : Calls Tryz.prog 113 #[.pointer (some ⟨b, 0, none⟩)] W fun e w' => e = .returned (.bool true) ∧ w' = W := by
  go_enter Tryz.func113, Tryz.ntmps113
  go_wp2
  go_loop [3] (fun i => i = .int .i64 0) (fun _ => 0)
  case atStart => rfl
  case round =>
    obtain rfl := hrel
    go_wp2
    go_ret
    exact ⟨rfl, rfl⟩
theorem E_lookArr (b : Nat) (W : World) (h : W.cell? ⟨b, 10, none⟩ = some (.slice none 0 0)) : Calls Tryz.prog 114 #[.pointer (some ⟨b, 0, none⟩)] W fun e w' => e = .returned (.bool true) ∧ w' = W := by
  go_enter Tryz.func114, Tryz.ntmps114
  go_wp2
  go_loop [3] (fun i => i = .int .i64 0) (fun _ => 0)
  case atStart => rfl
  case round =>
    obtain rfl := hrel
    go_wp2
    go_ret
    exact ⟨rfl, rfl⟩
theorem E_lookCase (b : Nat) (W : World) (h : W.cell? ⟨b, 11, none⟩ = some (.slice none 0 0)) : Calls Tryz.prog 115 #[.pointer (some ⟨b, 0, none⟩)] W fun e w' => e = .returned (.bool true) ∧ w' = W := by
  go_enter Tryz.func115, Tryz.ntmps115
  go_wp2
  go_loop [3] (fun i => i = .int .i64 0) (fun _ => 0)
  case atStart => rfl
  case round =>
    obtain rfl := hrel
    go_wp2
    go_ret
    exact ⟨rfl, rfl⟩
theorem E_lookJump (b : Nat) (W : World) (h : W.cell? ⟨b, 12, none⟩ = some (.slice none 0 0)) : Calls Tryz.prog 116 #[.pointer (some ⟨b, 0, none⟩)] W fun e w' => e = .returned (.bool true) ∧ w' = W := by
  go_enter Tryz.func116, Tryz.ntmps116
  go_wp2
  go_loop [3] (fun i => i = .int .i64 0) (fun _ => 0)
  case atStart => rfl
  case round =>
    obtain rfl := hrel
    go_wp2
    go_ret
    exact ⟨rfl, rfl⟩
theorem E_lookExpr (b : Nat) (W : World) (h : W.cell? ⟨b, 13, none⟩ = some (.slice none 0 0)) : Calls Tryz.prog 117 #[.pointer (some ⟨b, 0, none⟩)] W fun e w' => e = .returned (.bool true) ∧ w' = W := by
  go_enter Tryz.func117, Tryz.ntmps117
  go_wp2
  go_loop [3] (fun i => i = .int .i64 0) (fun _ => 0)
  case atStart => rfl
  case round =>
    obtain rfl := hrel
    go_wp2
    go_ret
    exact ⟨rfl, rfl⟩
theorem E_lookStmt (b : Nat) (W : World) (h : W.cell? ⟨b, 14, none⟩ = some (.slice none 0 0)) : Calls Tryz.prog 118 #[.pointer (some ⟨b, 0, none⟩)] W fun e w' => e = .returned (.bool true) ∧ w' = W := by
  go_enter Tryz.func118, Tryz.ntmps118
  go_wp2
  go_loop [3] (fun i => i = .int .i64 0) (fun _ => 0)
  case atStart => rfl
  case round =>
    obtain rfl := hrel
    go_wp2
    go_ret
    exact ⟨rfl, rfl⟩
theorem E_lookState (b : Nat) (W : World) (h : W.cell? ⟨b, 15, none⟩ = some (.slice none 0 0)) : Calls Tryz.prog 119 #[.pointer (some ⟨b, 0, none⟩)] W fun e w' => e = .returned (.bool true) ∧ w' = W := by
  go_enter Tryz.func119, Tryz.ntmps119
  go_wp2
  go_loop [3] (fun i => i = .int .i64 0) (fun _ => 0)
  case atStart => rfl
  case round =>
    obtain rfl := hrel
    go_wp2
    go_ret
    exact ⟨rfl, rfl⟩
theorem E_lookKey (b : Nat) (W : World) (h : W.cell? ⟨b, 16, none⟩ = some (.slice none 0 0)) : Calls Tryz.prog 120 #[.pointer (some ⟨b, 0, none⟩)] W fun e w' => e = .returned (.bool true) ∧ w' = W := by
  go_enter Tryz.func120, Tryz.ntmps120
  go_wp2
  go_loop [3] (fun i => i = .int .i64 0) (fun _ => 0)
  case atStart => rfl
  case round =>
    obtain rfl := hrel
    go_wp2
    go_ret
    exact ⟨rfl, rfl⟩
theorem E_lookDecl (b : Nat) (W : World) (h : W.cell? ⟨b, 17, none⟩ = some (.slice none 0 0)) : Calls Tryz.prog 121 #[.pointer (some ⟨b, 0, none⟩)] W fun e w' => e = .returned (.bool true) ∧ w' = W := by
  go_enter Tryz.func121, Tryz.ntmps121
  go_wp2
  go_loop [3] (fun i => i = .int .i64 0) (fun _ => 0)
  case atStart => rfl
  case round =>
    obtain rfl := hrel
    go_wp2
    go_ret
    exact ⟨rfl, rfl⟩
theorem E_lookEntry (b : Nat) (W : World) (h : W.cell? ⟨b, 18, none⟩ = some (.slice none 0 0)) : Calls Tryz.prog 122 #[.pointer (some ⟨b, 0, none⟩)] W fun e w' => e = .returned (.bool true) ∧ w' = W := by
  go_enter Tryz.func122, Tryz.ntmps122
  go_wp2
  go_loop [3] (fun i => i = .int .i64 0) (fun _ => 0)
  case atStart => rfl
  case round =>
    obtain rfl := hrel
    go_wp2
    go_ret
    exact ⟨rfl, rfl⟩
theorem E_lookGroup (b : Nat) (W : World) (h : W.cell? ⟨b, 19, none⟩ = some (.slice none 0 0)) : Calls Tryz.prog 123 #[.pointer (some ⟨b, 0, none⟩)] W fun e w' => e = .returned (.bool true) ∧ w' = W := by
  go_enter Tryz.func123, Tryz.ntmps123
  go_wp2
  go_loop [3] (fun i => i = .int .i64 0) (fun _ => 0)
  case atStart => rfl
  case round =>
    obtain rfl := hrel
    go_wp2
    go_ret
    exact ⟨rfl, rfl⟩
theorem E_lookHead (b : Nat) (W : World) (h : W.cell? ⟨b, 20, none⟩ = some (.slice none 0 0)) : Calls Tryz.prog 124 #[.pointer (some ⟨b, 0, none⟩)] W fun e w' => e = .returned (.bool true) ∧ w' = W := by
  go_enter Tryz.func124, Tryz.ntmps124
  go_wp2
  go_loop [3] (fun i => i = .int .i64 0) (fun _ => 0)
  case atStart => rfl
  case round =>
    obtain rfl := hrel
    go_wp2
    go_ret
    exact ⟨rfl, rfl⟩
theorem E_lookNode (b : Nat) (W : World) (h : W.cell? ⟨b, 21, none⟩ = some (.slice none 0 0)) : Calls Tryz.prog 125 #[.pointer (some ⟨b, 0, none⟩)] W fun e w' => e = .returned (.bool true) ∧ w' = W := by
  go_enter Tryz.func125, Tryz.ntmps125
  go_wp2
  go_loop [3] (fun i => i = .int .i64 0) (fun _ => 0)
  case atStart => rfl
  case round =>
    obtain rfl := hrel
    go_wp2
    go_ret
    exact ⟨rfl, rfl⟩
theorem E_lookAct (b : Nat) (W : World) (h : W.cell? ⟨b, 22, none⟩ = some (.slice none 0 0)) : Calls Tryz.prog 126 #[.pointer (some ⟨b, 0, none⟩)] W fun e w' => e = .returned (.bool true) ∧ w' = W := by
  go_enter Tryz.func126, Tryz.ntmps126
  go_wp2
  go_loop [3] (fun i => i = .int .i64 0) (fun _ => 0)
  case atStart => rfl
  case round =>
    obtain rfl := hrel
    go_wp2
    go_ret
    exact ⟨rfl, rfl⟩
theorem E_lookTable (b : Nat) (W : World) (h : W.cell? ⟨b, 23, none⟩ = some (.slice none 0 0)) : Calls Tryz.prog 127 #[.pointer (some ⟨b, 0, none⟩)] W fun e w' => e = .returned (.bool true) ∧ w' = W := by
  go_enter Tryz.func127, Tryz.ntmps127
  go_wp2
  go_loop [3] (fun i => i = .int .i64 0) (fun _ => 0)
  case atStart => rfl
  case round =>
    obtain rfl := hrel
    go_wp2
    go_ret
    exact ⟨rfl, rfl⟩
theorem E_lookIns (b : Nat) (W : World) (h : W.cell? ⟨b, 24, none⟩ = some (.slice none 0 0)) : Calls Tryz.prog 128 #[.pointer (some ⟨b, 0, none⟩)] W fun e w' => e = .returned (.bool true) ∧ w' = W := by
  go_enter Tryz.func128, Tryz.ntmps128
  go_wp2
  go_loop [3] (fun i => i = .int .i64 0) (fun _ => 0)
  case atStart => rfl
  case round =>
    obtain rfl := hrel
    go_wp2
    go_ret
    exact ⟨rfl, rfl⟩
theorem E_lookEffect (b : Nat) (W : World) (h : W.cell? ⟨b, 25, none⟩ = some (.slice none 0 0)) : Calls Tryz.prog 129 #[.pointer (some ⟨b, 0, none⟩)] W fun e w' => e = .returned (.bool true) ∧ w' = W := by
  go_enter Tryz.func129, Tryz.ntmps129
  go_wp2
  go_loop [3] (fun i => i = .int .i64 0) (fun _ => 0)
  case atStart => rfl
  case round =>
    obtain rfl := hrel
    go_wp2
    go_ret
    exact ⟨rfl, rfl⟩
theorem E_lookUpdate (b : Nat) (W : World) (h : W.cell? ⟨b, 26, none⟩ = some (.slice none 0 0)) : Calls Tryz.prog 130 #[.pointer (some ⟨b, 0, none⟩)] W fun e w' => e = .returned (.bool true) ∧ w' = W := by
  go_enter Tryz.func130, Tryz.ntmps130
  go_wp2
  go_loop [3] (fun i => i = .int .i64 0) (fun _ => 0)
  case atStart => rfl
  case round =>
    obtain rfl := hrel
    go_wp2
    go_ret
    exact ⟨rfl, rfl⟩
theorem E_lookEvent (b : Nat) (W : World) (h : W.cell? ⟨b, 27, none⟩ = some (.slice none 0 0)) : Calls Tryz.prog 131 #[.pointer (some ⟨b, 0, none⟩)] W fun e w' => e = .returned (.bool true) ∧ w' = W := by
  go_enter Tryz.func131, Tryz.ntmps131
  go_wp2
  go_loop [3] (fun i => i = .int .i64 0) (fun _ => 0)
  case atStart => rfl
  case round =>
    obtain rfl := hrel
    go_wp2
    go_ret
    exact ⟨rfl, rfl⟩
theorem E_lookOut (b : Nat) (W : World) (h : W.cell? ⟨b, 28, none⟩ = some (.slice none 0 0)) : Calls Tryz.prog 132 #[.pointer (some ⟨b, 0, none⟩)] W fun e w' => e = .returned (.bool true) ∧ w' = W := by
  go_enter Tryz.func132, Tryz.ntmps132
  go_wp2
  go_loop [3] (fun i => i = .int .i64 0) (fun _ => 0)
  case atStart => rfl
  case round =>
    obtain rfl := hrel
    go_wp2
    go_ret
    exact ⟨rfl, rfl⟩
theorem E_lookRow (b : Nat) (W : World) (h : W.cell? ⟨b, 29, none⟩ = some (.slice none 0 0)) : Calls Tryz.prog 133 #[.pointer (some ⟨b, 0, none⟩)] W fun e w' => e = .returned (.bool true) ∧ w' = W := by
  go_enter Tryz.func133, Tryz.ntmps133
  go_wp2
  go_loop [3] (fun i => i = .int .i64 0) (fun _ => 0)
  case atStart => rfl
  case round =>
    obtain rfl := hrel
    go_wp2
    go_ret
    exact ⟨rfl, rfl⟩
theorem E_lookArray (b : Nat) (W : World) (h : W.cell? ⟨b, 30, none⟩ = some (.slice none 0 0)) : Calls Tryz.prog 134 #[.pointer (some ⟨b, 0, none⟩)] W fun e w' => e = .returned (.bool true) ∧ w' = W := by
  go_enter Tryz.func134, Tryz.ntmps134
  go_wp2
  go_loop [3] (fun i => i = .int .i64 0) (fun _ => 0)
  case atStart => rfl
  case round =>
    obtain rfl := hrel
    go_wp2
    go_ret
    exact ⟨rfl, rfl⟩
end Go.Proofs.YtmoakgkoahjijaaGreatDoor

/- Apart: of disjoint lists of bytes that are the law's own it answers true. -/
set_option linter.unusedVariables false
set_option linter.unusedSimpArgs false
namespace Go.Proofs.YtmoakgkoahjijaaGreatDoor
open Go.RowKit

theorem Fill.grow {W : World} {base : Nat} {ps : List (Value × Value)} {ns : Nat → Nat} {F : Nat → Nat → Prop} (h : Fill W base ps ns F ps.length) : Grow W base ps ns F 0 :=
  fun j p hp => ⟨fun hj => by omega, fun _ => ⟨(h j p hp).1, (h j p hp).2.1 (List.getElem?_eq_some_iff.1 hp).1⟩⟩
set_option maxRecDepth 100000 in
set_option maxHeartbeats 40000000 in
theorem apart_any (base b : Nat) (row : Value) (ps : List (Value × Value)) (ns : Nat → Nat) (F : Nat → Nat → Prop) (W : World) (h : Bk W base b row ps F) (hN : ps.length ≤ 1000000000) (hns : ∀ j, ns j ≤ 140737488355200) (h1 : Fill W base ps ns F 0) :
    Calls Tryz.prog 12 #[.pointer (some ⟨b, 0, none⟩)] W fun e w' => e = .returned (.bool true) ∧ Foot (fun q => row.ownBlock = some q ∨ ∃ i, F i q) W w' := by
  have HB := aside' h
  have HFI := aside' (fill_any base b row ps ns F W h hN (fun j => Nat.le_trans (hns j) (by decide)) h1)
  have HNS := aside' hns
  clear h h1 hns
  go_enter Tryz.func12, Tryz.ntmps12
  go_wp2_with fail
  refine Calls.mono (E_fillInt b _ (cellOf HB.out.hb 1)) ?_
  rintro e w' ⟨⟨u, rfl⟩, hw⟩
  have hw := hw.symm
  subst hw
  go_wp2_with fail
  refine Calls.mono HFI.out ?_
  rintro e W1 ⟨⟨u, rfl⟩, hb1, hf1, hft1⟩
  have HB1 := aside' hb1
  have HG := aside' (grow_any base b row ps ns F W1 hb1 hN HNS.out hf1.grow)
  have HT1 := aside' (hft1.mono (G := fun q => row.ownBlock = some q ∨ ∃ i, F i q) (fun q _ hq => .inr hq))
  clear hb1 hf1 hft1 HFI
  go_wp2_with fail
  refine Calls.mono (E_fillKind b _ (cellOf HB1.out.hb 3)) ?_
  rintro e w' ⟨⟨u, rfl⟩, hw⟩
  have hw := hw.symm
  subst hw
  go_wp2_with fail
  refine Calls.mono (E_fillText b _ (cellOf HB1.out.hb 4)) ?_
  rintro e w' ⟨⟨u, rfl⟩, hw⟩
  have hw := hw.symm
  subst hw
  go_wp2_with fail
  refine Calls.mono (E_fillBlob b _ (cellOf HB1.out.hb 5)) ?_
  rintro e w' ⟨⟨u, rfl⟩, hw⟩
  have hw := hw.symm
  subst hw
  go_wp2_with fail
  refine Calls.mono (E_fillNumber b _ (cellOf HB1.out.hb 6)) ?_
  rintro e w' ⟨⟨u, rfl⟩, hw⟩
  have hw := hw.symm
  subst hw
  go_wp2_with fail
  refine Calls.mono (E_fillWord b _ (cellOf HB1.out.hb 7)) ?_
  rintro e w' ⟨⟨u, rfl⟩, hw⟩
  have hw := hw.symm
  subst hw
  go_wp2_with fail
  refine Calls.mono (E_fillField b _ (cellOf HB1.out.hb 8)) ?_
  rintro e w' ⟨⟨u, rfl⟩, hw⟩
  have hw := hw.symm
  subst hw
  go_wp2_with fail
  refine Calls.mono (E_fillMatch b _ (cellOf HB1.out.hb 9)) ?_
  rintro e w' ⟨⟨u, rfl⟩, hw⟩
  have hw := hw.symm
  subst hw
  go_wp2_with fail
  refine Calls.mono (E_fillArr b _ (cellOf HB1.out.hb 10)) ?_
  rintro e w' ⟨⟨u, rfl⟩, hw⟩
  have hw := hw.symm
  subst hw
  go_wp2_with fail
  refine Calls.mono (E_fillCase b _ (cellOf HB1.out.hb 11)) ?_
  rintro e w' ⟨⟨u, rfl⟩, hw⟩
  have hw := hw.symm
  subst hw
  go_wp2_with fail
  refine Calls.mono (E_fillJump b _ (cellOf HB1.out.hb 12)) ?_
  rintro e w' ⟨⟨u, rfl⟩, hw⟩
  have hw := hw.symm
  subst hw
  go_wp2_with fail
  refine Calls.mono (E_fillExpr b _ (cellOf HB1.out.hb 13)) ?_
  rintro e w' ⟨⟨u, rfl⟩, hw⟩
  have hw := hw.symm
  subst hw
  go_wp2_with fail
  refine Calls.mono (E_fillStmt b _ (cellOf HB1.out.hb 14)) ?_
  rintro e w' ⟨⟨u, rfl⟩, hw⟩
  have hw := hw.symm
  subst hw
  go_wp2_with fail
  refine Calls.mono (E_fillState b _ (cellOf HB1.out.hb 15)) ?_
  rintro e w' ⟨⟨u, rfl⟩, hw⟩
  have hw := hw.symm
  subst hw
  go_wp2_with fail
  refine Calls.mono (E_fillKey b _ (cellOf HB1.out.hb 16)) ?_
  rintro e w' ⟨⟨u, rfl⟩, hw⟩
  have hw := hw.symm
  subst hw
  go_wp2_with fail
  refine Calls.mono (E_fillDecl b _ (cellOf HB1.out.hb 17)) ?_
  rintro e w' ⟨⟨u, rfl⟩, hw⟩
  have hw := hw.symm
  subst hw
  go_wp2_with fail
  refine Calls.mono (E_fillEntry b _ (cellOf HB1.out.hb 18)) ?_
  rintro e w' ⟨⟨u, rfl⟩, hw⟩
  have hw := hw.symm
  subst hw
  go_wp2_with fail
  refine Calls.mono (E_fillGroup b _ (cellOf HB1.out.hb 19)) ?_
  rintro e w' ⟨⟨u, rfl⟩, hw⟩
  have hw := hw.symm
  subst hw
  go_wp2_with fail
  refine Calls.mono (E_fillHead b _ (cellOf HB1.out.hb 20)) ?_
  rintro e w' ⟨⟨u, rfl⟩, hw⟩
  have hw := hw.symm
  subst hw
  go_wp2_with fail
  refine Calls.mono (E_fillNode b _ (cellOf HB1.out.hb 21)) ?_
  rintro e w' ⟨⟨u, rfl⟩, hw⟩
  have hw := hw.symm
  subst hw
  go_wp2_with fail
  refine Calls.mono (E_fillAct b _ (cellOf HB1.out.hb 22)) ?_
  rintro e w' ⟨⟨u, rfl⟩, hw⟩
  have hw := hw.symm
  subst hw
  go_wp2_with fail
  refine Calls.mono (E_fillTable b _ (cellOf HB1.out.hb 23)) ?_
  rintro e w' ⟨⟨u, rfl⟩, hw⟩
  have hw := hw.symm
  subst hw
  go_wp2_with fail
  refine Calls.mono (E_fillIns b _ (cellOf HB1.out.hb 24)) ?_
  rintro e w' ⟨⟨u, rfl⟩, hw⟩
  have hw := hw.symm
  subst hw
  go_wp2_with fail
  refine Calls.mono (E_fillEffect b _ (cellOf HB1.out.hb 25)) ?_
  rintro e w' ⟨⟨u, rfl⟩, hw⟩
  have hw := hw.symm
  subst hw
  go_wp2_with fail
  refine Calls.mono (E_fillUpdate b _ (cellOf HB1.out.hb 26)) ?_
  rintro e w' ⟨⟨u, rfl⟩, hw⟩
  have hw := hw.symm
  subst hw
  go_wp2_with fail
  refine Calls.mono (E_fillEvent b _ (cellOf HB1.out.hb 27)) ?_
  rintro e w' ⟨⟨u, rfl⟩, hw⟩
  have hw := hw.symm
  subst hw
  go_wp2_with fail
  refine Calls.mono (E_fillOut b _ (cellOf HB1.out.hb 28)) ?_
  rintro e w' ⟨⟨u, rfl⟩, hw⟩
  have hw := hw.symm
  subst hw
  go_wp2_with fail
  refine Calls.mono (E_fillRow b _ (cellOf HB1.out.hb 29)) ?_
  rintro e w' ⟨⟨u, rfl⟩, hw⟩
  have hw := hw.symm
  subst hw
  go_wp2_with fail
  refine Calls.mono (E_fillArray b _ (cellOf HB1.out.hb 30)) ?_
  rintro e w' ⟨⟨u, rfl⟩, hw⟩
  have hw := hw.symm
  subst hw
  go_wp2_with fail
  refine Calls.mono (E_growInt b _ (cellOf HB1.out.hb 1)) ?_
  rintro e w' ⟨⟨u, rfl⟩, hw⟩
  have hw := hw.symm
  subst hw
  go_wp2_with fail
  refine Calls.mono HG.out ?_
  rintro e W2 ⟨⟨u, rfl⟩, ps2, F2, hl2, hb2, hg2, hft2⟩
  have HB2 := aside' hb2
  have HLK := aside' (book_look base b row ps2 ns F2 W2 hb2 (by omega) HNS.out (by rw [hl2]; exact hg2))
  have HT2 := aside' (HT1.out.trans hft2 (fun q hq => .inl hq))
  clear hb2 hg2 hft2 hl2 HG HT1 HB1
  go_wp2_with fail
  refine Calls.mono (E_growKind b _ (cellOf HB2.out.hb 3)) ?_
  rintro e w' ⟨⟨u, rfl⟩, hw⟩
  have hw := hw.symm
  subst hw
  go_wp2_with fail
  refine Calls.mono (E_growText b _ (cellOf HB2.out.hb 4)) ?_
  rintro e w' ⟨⟨u, rfl⟩, hw⟩
  have hw := hw.symm
  subst hw
  go_wp2_with fail
  refine Calls.mono (E_growBlob b _ (cellOf HB2.out.hb 5)) ?_
  rintro e w' ⟨⟨u, rfl⟩, hw⟩
  have hw := hw.symm
  subst hw
  go_wp2_with fail
  refine Calls.mono (E_growNumber b _ (cellOf HB2.out.hb 6)) ?_
  rintro e w' ⟨⟨u, rfl⟩, hw⟩
  have hw := hw.symm
  subst hw
  go_wp2_with fail
  refine Calls.mono (E_growWord b _ (cellOf HB2.out.hb 7)) ?_
  rintro e w' ⟨⟨u, rfl⟩, hw⟩
  have hw := hw.symm
  subst hw
  go_wp2_with fail
  refine Calls.mono (E_growField b _ (cellOf HB2.out.hb 8)) ?_
  rintro e w' ⟨⟨u, rfl⟩, hw⟩
  have hw := hw.symm
  subst hw
  go_wp2_with fail
  refine Calls.mono (E_growMatch b _ (cellOf HB2.out.hb 9)) ?_
  rintro e w' ⟨⟨u, rfl⟩, hw⟩
  have hw := hw.symm
  subst hw
  go_wp2_with fail
  refine Calls.mono (E_growArr b _ (cellOf HB2.out.hb 10)) ?_
  rintro e w' ⟨⟨u, rfl⟩, hw⟩
  have hw := hw.symm
  subst hw
  go_wp2_with fail
  refine Calls.mono (E_growCase b _ (cellOf HB2.out.hb 11)) ?_
  rintro e w' ⟨⟨u, rfl⟩, hw⟩
  have hw := hw.symm
  subst hw
  go_wp2_with fail
  refine Calls.mono (E_growJump b _ (cellOf HB2.out.hb 12)) ?_
  rintro e w' ⟨⟨u, rfl⟩, hw⟩
  have hw := hw.symm
  subst hw
  go_wp2_with fail
  refine Calls.mono (E_growExpr b _ (cellOf HB2.out.hb 13)) ?_
  rintro e w' ⟨⟨u, rfl⟩, hw⟩
  have hw := hw.symm
  subst hw
  go_wp2_with fail
  refine Calls.mono (E_growStmt b _ (cellOf HB2.out.hb 14)) ?_
  rintro e w' ⟨⟨u, rfl⟩, hw⟩
  have hw := hw.symm
  subst hw
  go_wp2_with fail
  refine Calls.mono (E_growState b _ (cellOf HB2.out.hb 15)) ?_
  rintro e w' ⟨⟨u, rfl⟩, hw⟩
  have hw := hw.symm
  subst hw
  go_wp2_with fail
  refine Calls.mono (E_growKey b _ (cellOf HB2.out.hb 16)) ?_
  rintro e w' ⟨⟨u, rfl⟩, hw⟩
  have hw := hw.symm
  subst hw
  go_wp2_with fail
  refine Calls.mono (E_growDecl b _ (cellOf HB2.out.hb 17)) ?_
  rintro e w' ⟨⟨u, rfl⟩, hw⟩
  have hw := hw.symm
  subst hw
  go_wp2_with fail
  refine Calls.mono (E_growEntry b _ (cellOf HB2.out.hb 18)) ?_
  rintro e w' ⟨⟨u, rfl⟩, hw⟩
  have hw := hw.symm
  subst hw
  go_wp2_with fail
  refine Calls.mono (E_growGroup b _ (cellOf HB2.out.hb 19)) ?_
  rintro e w' ⟨⟨u, rfl⟩, hw⟩
  have hw := hw.symm
  subst hw
  go_wp2_with fail
  refine Calls.mono (E_growHead b _ (cellOf HB2.out.hb 20)) ?_
  rintro e w' ⟨⟨u, rfl⟩, hw⟩
  have hw := hw.symm
  subst hw
  go_wp2_with fail
  refine Calls.mono (E_growNode b _ (cellOf HB2.out.hb 21)) ?_
  rintro e w' ⟨⟨u, rfl⟩, hw⟩
  have hw := hw.symm
  subst hw
  go_wp2_with fail
  refine Calls.mono (E_growAct b _ (cellOf HB2.out.hb 22)) ?_
  rintro e w' ⟨⟨u, rfl⟩, hw⟩
  have hw := hw.symm
  subst hw
  go_wp2_with fail
  refine Calls.mono (E_growTable b _ (cellOf HB2.out.hb 23)) ?_
  rintro e w' ⟨⟨u, rfl⟩, hw⟩
  have hw := hw.symm
  subst hw
  go_wp2_with fail
  refine Calls.mono (E_growIns b _ (cellOf HB2.out.hb 24)) ?_
  rintro e w' ⟨⟨u, rfl⟩, hw⟩
  have hw := hw.symm
  subst hw
  go_wp2_with fail
  refine Calls.mono (E_growEffect b _ (cellOf HB2.out.hb 25)) ?_
  rintro e w' ⟨⟨u, rfl⟩, hw⟩
  have hw := hw.symm
  subst hw
  go_wp2_with fail
  refine Calls.mono (E_growUpdate b _ (cellOf HB2.out.hb 26)) ?_
  rintro e w' ⟨⟨u, rfl⟩, hw⟩
  have hw := hw.symm
  subst hw
  go_wp2_with fail
  refine Calls.mono (E_growEvent b _ (cellOf HB2.out.hb 27)) ?_
  rintro e w' ⟨⟨u, rfl⟩, hw⟩
  have hw := hw.symm
  subst hw
  go_wp2_with fail
  refine Calls.mono (E_growOut b _ (cellOf HB2.out.hb 28)) ?_
  rintro e w' ⟨⟨u, rfl⟩, hw⟩
  have hw := hw.symm
  subst hw
  go_wp2_with fail
  refine Calls.mono (E_growRow b _ (cellOf HB2.out.hb 29)) ?_
  rintro e w' ⟨⟨u, rfl⟩, hw⟩
  have hw := hw.symm
  subst hw
  go_wp2_with fail
  refine Calls.mono (E_growArray b _ (cellOf HB2.out.hb 30)) ?_
  rintro e w' ⟨⟨u, rfl⟩, hw⟩
  have hw := hw.symm
  subst hw
  go_wp2_with fail
  refine Calls.mono (E_lookInt b _ (cellOf HB2.out.hb 1)) ?_
  rintro e w' ⟨rfl, hw⟩
  have hw := hw.symm
  subst hw
  go_wp2_with fail
  refine Calls.mono HLK.out ?_
  rintro e W3 ⟨rfl, hft3⟩
  have HB3 := aside' (HB2.out.foot hft3 (fun h => h) (fun _ _ h => h))
  have HT3 := aside' (HT2.out.trans hft3 (fun q hq => hq.elim))
  clear hft3 HLK HT2 HB2
  go_wp2_with fail
  refine Calls.mono (E_lookKind b _ (cellOf HB3.out.hb 3)) ?_
  rintro e w' ⟨rfl, hw⟩
  have hw := hw.symm
  subst hw
  go_wp2_with fail
  refine Calls.mono (E_lookText b _ (cellOf HB3.out.hb 4)) ?_
  rintro e w' ⟨rfl, hw⟩
  have hw := hw.symm
  subst hw
  go_wp2_with fail
  refine Calls.mono (E_lookBlob b _ (cellOf HB3.out.hb 5)) ?_
  rintro e w' ⟨rfl, hw⟩
  have hw := hw.symm
  subst hw
  go_wp2_with fail
  refine Calls.mono (E_lookNumber b _ (cellOf HB3.out.hb 6)) ?_
  rintro e w' ⟨rfl, hw⟩
  have hw := hw.symm
  subst hw
  go_wp2_with fail
  refine Calls.mono (E_lookWord b _ (cellOf HB3.out.hb 7)) ?_
  rintro e w' ⟨rfl, hw⟩
  have hw := hw.symm
  subst hw
  go_wp2_with fail
  refine Calls.mono (E_lookField b _ (cellOf HB3.out.hb 8)) ?_
  rintro e w' ⟨rfl, hw⟩
  have hw := hw.symm
  subst hw
  go_wp2_with fail
  refine Calls.mono (E_lookMatch b _ (cellOf HB3.out.hb 9)) ?_
  rintro e w' ⟨rfl, hw⟩
  have hw := hw.symm
  subst hw
  go_wp2_with fail
  refine Calls.mono (E_lookArr b _ (cellOf HB3.out.hb 10)) ?_
  rintro e w' ⟨rfl, hw⟩
  have hw := hw.symm
  subst hw
  go_wp2_with fail
  refine Calls.mono (E_lookCase b _ (cellOf HB3.out.hb 11)) ?_
  rintro e w' ⟨rfl, hw⟩
  have hw := hw.symm
  subst hw
  go_wp2_with fail
  refine Calls.mono (E_lookJump b _ (cellOf HB3.out.hb 12)) ?_
  rintro e w' ⟨rfl, hw⟩
  have hw := hw.symm
  subst hw
  go_wp2_with fail
  refine Calls.mono (E_lookExpr b _ (cellOf HB3.out.hb 13)) ?_
  rintro e w' ⟨rfl, hw⟩
  have hw := hw.symm
  subst hw
  go_wp2_with fail
  refine Calls.mono (E_lookStmt b _ (cellOf HB3.out.hb 14)) ?_
  rintro e w' ⟨rfl, hw⟩
  have hw := hw.symm
  subst hw
  go_wp2_with fail
  refine Calls.mono (E_lookState b _ (cellOf HB3.out.hb 15)) ?_
  rintro e w' ⟨rfl, hw⟩
  have hw := hw.symm
  subst hw
  go_wp2_with fail
  refine Calls.mono (E_lookKey b _ (cellOf HB3.out.hb 16)) ?_
  rintro e w' ⟨rfl, hw⟩
  have hw := hw.symm
  subst hw
  go_wp2_with fail
  refine Calls.mono (E_lookDecl b _ (cellOf HB3.out.hb 17)) ?_
  rintro e w' ⟨rfl, hw⟩
  have hw := hw.symm
  subst hw
  go_wp2_with fail
  refine Calls.mono (E_lookEntry b _ (cellOf HB3.out.hb 18)) ?_
  rintro e w' ⟨rfl, hw⟩
  have hw := hw.symm
  subst hw
  go_wp2_with fail
  refine Calls.mono (E_lookGroup b _ (cellOf HB3.out.hb 19)) ?_
  rintro e w' ⟨rfl, hw⟩
  have hw := hw.symm
  subst hw
  go_wp2_with fail
  refine Calls.mono (E_lookHead b _ (cellOf HB3.out.hb 20)) ?_
  rintro e w' ⟨rfl, hw⟩
  have hw := hw.symm
  subst hw
  go_wp2_with fail
  refine Calls.mono (E_lookNode b _ (cellOf HB3.out.hb 21)) ?_
  rintro e w' ⟨rfl, hw⟩
  have hw := hw.symm
  subst hw
  go_wp2_with fail
  refine Calls.mono (E_lookAct b _ (cellOf HB3.out.hb 22)) ?_
  rintro e w' ⟨rfl, hw⟩
  have hw := hw.symm
  subst hw
  go_wp2_with fail
  refine Calls.mono (E_lookTable b _ (cellOf HB3.out.hb 23)) ?_
  rintro e w' ⟨rfl, hw⟩
  have hw := hw.symm
  subst hw
  go_wp2_with fail
  refine Calls.mono (E_lookIns b _ (cellOf HB3.out.hb 24)) ?_
  rintro e w' ⟨rfl, hw⟩
  have hw := hw.symm
  subst hw
  go_wp2_with fail
  refine Calls.mono (E_lookEffect b _ (cellOf HB3.out.hb 25)) ?_
  rintro e w' ⟨rfl, hw⟩
  have hw := hw.symm
  subst hw
  go_wp2_with fail
  refine Calls.mono (E_lookUpdate b _ (cellOf HB3.out.hb 26)) ?_
  rintro e w' ⟨rfl, hw⟩
  have hw := hw.symm
  subst hw
  go_wp2_with fail
  refine Calls.mono (E_lookEvent b _ (cellOf HB3.out.hb 27)) ?_
  rintro e w' ⟨rfl, hw⟩
  have hw := hw.symm
  subst hw
  go_wp2_with fail
  refine Calls.mono (E_lookOut b _ (cellOf HB3.out.hb 28)) ?_
  rintro e w' ⟨rfl, hw⟩
  have hw := hw.symm
  subst hw
  go_wp2_with fail
  refine Calls.mono (E_lookRow b _ (cellOf HB3.out.hb 29)) ?_
  rintro e w' ⟨rfl, hw⟩
  have hw := hw.symm
  subst hw
  go_wp2_with fail
  refine Calls.mono (E_lookArray b _ (cellOf HB3.out.hb 30)) ?_
  rintro e w' ⟨rfl, hw⟩
  have hw := hw.symm
  subst hw
  go_wp2
  go_ret
  exact ⟨rfl, HT3.out⟩
end Go.Proofs.YtmoakgkoahjijaaGreatDoor

/- A book beside other work: its zone, its lists' going on, one list more. -/
set_option linter.unusedVariables false
set_option linter.unusedSimpArgs false
namespace Go.Proofs.YtmoakgkoahjijaaGreatDoor
open Go.RowKit

theorem wpList_seen {P : Program} {ops : Array Oper} {rest : List Oper} {a : Act} {Q : Exit → Act → World → Prop} {W : World} (h : ∀ V, V = W → wpList P ops Q rest a V) : wpList P ops Q rest a W := h W rfl
theorem own_base' {W : World} {base base' n : Nat} {e : TypeId} {size : Nat} {v : Value} {xs : List Value} (ho : W.ownsRow base e size v n xs) (hb : base' ≤ base) : W.ownsRow base' e size v n xs := by
  refine ⟨ho.1, ho.2.elim .inl ?_⟩
  rintro ⟨g, cap, cur, h1, h2, r⟩
  exact .inr ⟨g, cap, cur, h1, Nat.le_trans hb h2, r⟩
theorem own_block (W : World) (base g : Nat) (xs : List Int) (n : Nat) (hn : xs.length = n) (hm : n ≤ 9223372036854775807) (hb : base ≤ g) (h : W.heap[g]? = some (.cells (nums .u8 xs).toArray 5 (0, 0))) : W.ownsRow base 5 1 (.slice (some ⟨g, 0, none⟩) n n) n (nums .u8 xs) :=
  ⟨by simp [nums, hn], .inr ⟨g, n, _, rfl, hb, h, Nat.le_refl _, by simpa [maxLen] using hm, by simp [nums, hn], by rw [List.toList_toArray, List.take_of_length_le (by simp [nums, hn])]⟩⟩
theorem own_lt {w : World} {base n : Nat} {e : TypeId} {size : Nat} {v : Value} {xs : List Value} (h : w.ownsRow base e size v n xs) : ∀ k, v.ownBlock = some k → base ≤ k ∧ k < w.heap.size := by
  intro k hk
  rcases h.2 with ⟨rfl, _⟩ | ⟨g, cap, cur, rfl, h1, h2, _⟩
  · simp [Value.ownBlock] at hk
  · simp only [Value.ownBlock, Option.some.injEq] at hk
    subst hk
    exact ⟨h1, (Array.getElem?_eq_some_iff.1 h2).1⟩
theorem bytes_keep (base b : Nat) (row : Value) (ps : List (Value × Value)) (F : Nat → Nat → Prop) (A : Option Addr) (n c : Nat) (Fv : Nat → Prop) (W : World) (h : Bk W base b row ps F) (hN : ps.length ≤ 1000000000)
    (h1 : ∀ k, Fv k → base ≤ k ∧ k < W.heap.size ∧ k ≠ b ∧ row.ownBlock ≠ some k) (h2 : ∀ i k, F i k → ¬ Fv k) :
    Calls Tryz.prog 11 #[.pointer (some ⟨b, 0, none⟩), .slice A n c] W (Kept base b row (.slice A n c) ps F Fv W) := by
  have HK := aside' (keep_any base b row ps F A n c Fv W h hN h1 h2)
  clear h h1 h2
  go_enter Tryz.func11, Tryz.ntmps11
  go_wp2_with fail
  refine Calls.mono HK.out ?_
  rintro e w' ⟨⟨u, rfl⟩, hk⟩
  go_wp2
  go_end0
  exact ⟨⟨_, rfl⟩, hk⟩
/-- The book's block, when it was written down whole; F: the blocks that are kept apart from it. -/
theorem Bk.freshF (W : World) (base : Nat) (F : Nat → Nat → Prop) (hb : base ≤ W.heap.size) (h1 : ∀ i k, F i k → base ≤ k ∧ k < W.heap.size) (h2 : ∀ i j k, F i k → F j k → i = j) : Bk ((W.alloc (.cells (bookCells 0 (.slice none 0 0)) 61)).setRow W.heap.size (bookCells 0 (.slice none 0 0))) base W.heap.size (.slice none 0 0) [] F ∧
    Foot (fun _ => False) W ((W.alloc (.cells (bookCells 0 (.slice none 0 0)) 61)).setRow W.heap.size (bookCells 0 (.slice none 0 0))) :=
  ⟨⟨setRow_heap _ _ _ _ _ _ (heap_alloc_new W _), World.ownsRow_nil _ _ _ _, by simp [Value.ownBlock], hb, fun i k h => ⟨(h1 i k h).1, by have := (h1 i k h).2; simp; omega, by have := (h1 i k h).2; omega, by simp [Value.ownBlock]⟩, h2⟩,
   ⟨rfl, rfl, rfl, by simp, fun k hk _ => (setRow_other _ _ k _ (by omega)).trans (Below.heap_alloc W _ k hk)⟩⟩
/-- The zone of a book: what it writes or holds. -/
def Zo (b : Nat) (row : Value) (F : Nat → Nat → Prop) (q : Nat) : Prop := q = b ∨ row.ownBlock = some q ∨ ∃ i, F i q
/-- A book and its lists. -/
structure Bs (W : World) (base b : Nat) (row : Value) (ps : List (Value × Value)) (F : Nat → Nat → Prop) (ns : Nat → Nat) : Prop where
  bk : Bk W base b row ps F
  fi : Fill W base ps ns F 0
  hn : ∀ j, ns j ≤ 140737488355200
section
variable {W W' : World} {base b : Nat} {row : Value} {ps : List (Value × Value)} {F : Nat → Nat → Prop} {ns : Nat → Nat}
theorem Bs.lt (h : Bs W base b row ps F ns) (q : Nat) (hq : Zo b row F q) : base ≤ q ∧ q < W.heap.size := by
  rcases hq with rfl | hq | ⟨i, hq⟩
  · exact ⟨h.bk.bb, (Array.getElem?_eq_some_iff.1 h.bk.hb).1⟩
  · exact own_lt h.bk.hr q hq
  · exact ⟨(h.bk.fl i q hq).1, (h.bk.fl i q hq).2.1⟩
/-- Work that leaves the book's zone alone. -/
theorem Bs.foot {G : Nat → Prop} (h : Bs W base b row ps F ns) (hf : Foot G W W') (hG : ∀ q, Zo b row F q → ¬ G q) : Bs W' base b row ps F ns :=
  ⟨h.bk.foot hf (hG b (.inl rfl)) (fun q hq => hG q (.inr (.inl hq))), h.fi.foot hf (fun j q hq => hG q (.inr (.inr ⟨j, hq⟩))), h.hn⟩
theorem Bs.later (h : Bs W base b row ps F ns) (hb : Below W.heap.size W W') : Bs W' base b row ps F ns := h.foot (Foot.ofBelow hb (fun _ => False)) (fun _ _ h => h)
theorem L1.mono {n : Nat} {v : Value} {G H : Nat → Prop} (h : L1 W base G v n) (hm : ∀ k, G k → H k) : L1 W base H v n := by
  obtain ⟨xs, h1, h2⟩ := h
  exact ⟨xs, h1, fun k hk => hm k (h2 k hk)⟩
/-- One list more, a row of its own in blocks apart. -/
theorem Bs.keep {A : Option Addr} {n c base2 : Nat} {xs : List Int} (h : Bs W base b row ps F ns) (hN : ps.length ≤ 1000000000) (hb2 : base ≤ base2) (ho : W.ownsRow base2 5 1 (.slice A n c) n (nums .u8 xs)) (hn : n ≤ 140737488355200) (hz : ∀ q, (Value.slice A n c).ownBlock = some q → ¬ Zo b row F q) :
    Calls Tryz.prog 11 #[.pointer (some ⟨b, 0, none⟩), .slice A n c] W fun e w' => (∃ u, e = .returned u) ∧ ∃ row' F' ns', Bs w' base b row' (ps ++ [(.slice A n c, .slice none 0 0)]) F' ns' ∧ Foot (Zo b row F) W w' ∧ ∀ q, Zo b row' F' q → Zo b row F q ∨ (Value.slice A n c).ownBlock = some q ∨ W.heap.size ≤ q := by
  have hlt := own_lt ho
  refine (bytes_keep base b row ps F A n c (fun q => (Value.slice A n c).ownBlock = some q) W h.bk hN (fun q hq => ⟨Nat.le_trans hb2 (hlt q hq).1, (hlt q hq).2, fun e => hz q hq (.inl e), fun e => hz q hq (.inr (.inl e))⟩) (fun i q hq hv => hz q hv (.inr (.inr ⟨i, hq⟩)))).mono ?_
  rintro e w' ⟨hu, row', hk, hf, hr⟩
  refine ⟨hu, row', _, fun j => if j = ps.length then n else ns j, ⟨hk, ?_, ?_⟩, hf.mono (fun q _ hq => hq.elim .inl (fun h => .inr (.inl h))), ?_⟩
  · intro j p hp
    rcases Nat.lt_or_ge j ps.length with hj | hj
    · rw [List.getElem?_append_left hj] at hp
      obtain ⟨h1, _, h3⟩ := h.fi j p hp
      refine ⟨h1, fun h => by omega, fun _ => ?_⟩
      show L1 w' base _ p.1 (if j = ps.length then n else ns j)
      rw [if_neg (by omega)]
      exact ((h3 (Nat.zero_le _)).foot hf (fun q hq hq' => by have := h.bk.fl j q hq; exact hq'.elim this.2.2.1 this.2.2.2)).mono (fun q hq => .inl hq)
    · rw [List.getElem?_append_right hj] at hp
      have hj0 : j = ps.length := by
        rcases Nat.eq_or_lt_of_le hj with e | h
        · exact e.symm
        · rw [List.getElem?_eq_none (by simp; omega)] at hp; cases hp
      subst hj0
      simp at hp
      subst hp
      refine ⟨rfl, fun h => by omega, fun _ => ?_⟩
      show L1 w' base _ (.slice A n c) (if ps.length = ps.length then n else ns ps.length)
      rw [if_pos rfl]
      exact ⟨xs, own_foot (own_base' ho hb2) hf (fun q hq hq' => hq'.elim (fun e => hz q hq (.inl e)) (fun e => hz q hq (.inr (.inl e)))), fun q hq => .inr ⟨rfl, hq⟩⟩
  · intro j
    split
    · exact hn
    · exact h.hn j
  · rintro q (rfl | hq | ⟨i, hq | ⟨_, hq⟩⟩)
    · exact .inl (.inl rfl)
    · exact (hr q hq).imp (fun h => .inr (.inl h)) .inr
    · exact .inl (.inr (.inr ⟨i, hq⟩))
    · exact .inr (.inl hq)
theorem Bs.apart (h : Bs W base b row ps F ns) (hN : ps.length ≤ 1000000000) :
    Calls Tryz.prog 12 #[.pointer (some ⟨b, 0, none⟩)] W fun e w' => e = .returned (.bool true) ∧ Foot (Zo b row F) W w' :=
  (apart_any base b row ps ns F W h.bk hN h.hn h.fi).mono fun e w' ⟨he, hf⟩ => ⟨he, hf.mono (fun q _ hq => .inr hq)⟩
end
/-- An empty book. -/
theorem Bs.zero (W : World) (base : Nat) (hb : base ≤ W.heap.size) : Bs ((W.alloc (.cells (bookCells 0 (.slice none 0 0)) 61)).setRow W.heap.size (bookCells 0 (.slice none 0 0))) base W.heap.size (.slice none 0 0) [] (fun _ _ => False) (fun _ => 0) ∧
    Foot (fun _ => False) W ((W.alloc (.cells (bookCells 0 (.slice none 0 0)) 61)).setRow W.heap.size (bookCells 0 (.slice none 0 0))) :=
  have h := Bk.freshF W base (fun _ _ => False) hb (fun _ _ h => h.elim) (fun _ _ _ h => h.elim)
  ⟨⟨h.1, fun j p hp => by simp at hp, fun _ => by omega⟩, h.2⟩
end Go.Proofs.YtmoakgkoahjijaaGreatDoor

/- The contract of pointsmanlaw01.SameBytes: it answers whether two slices of bytes are the same. -/
set_option linter.unusedVariables false
set_option linter.unusedSimpArgs false
namespace Go.Proofs.YtmoakgkoahjijaaGreatDoor
open Go.RowKit

theorem take_eq_step {xs ys : List Int} {k : Nat} (hx : k < xs.length) (hy : k < ys.length) (h : xs.take k = ys.take k) (he : xs.getD k 0 = ys.getD k 0) : xs.take (k + 1) = ys.take (k + 1) := by
  rw [List.take_succ_eq_append_getElem hx, List.take_succ_eq_append_getElem hy, h]
  simp [List.getD_eq_getElem?_getD, List.getElem?_eq_getElem hx, List.getElem?_eq_getElem hy] at he
  rw [he]

set_option maxHeartbeats 800000 in
theorem same_bytes (A B : Option Addr) (n c m d : Nat) (xs ys : List Int) (w : World) (HA : Reads w .u8 A n xs) (HB : Reads w .u8 B m ys) :
    Calls Tryz.prog 9 #[.slice A n c, .slice B m d] w fun e w' => e = .returned (.bool (decide (xs = ys))) ∧ ∃ q, w' = w.drewN q := by
  have hn := HA.2.1
  have hm := HB.2.1
  have lx := HA.1
  have ly := HB.1
  by_cases hnm : n = m
  · subst hnm
    have L : Aside (xs.length = n ∧ ys.length = n) := ⟨lx, ly⟩
    have HA' : Aside (Reads w .u8 A n xs) := HA
    have HB' : Aside (Reads w .u8 B n ys) := HB
    clear lx ly HA HB
    go_enter Tryz.func9, Tryz.ntmps9
    go_wp2
    go_loopw [5] (fun i wr => ∃ k : Nat, k ≤ n ∧ i = .int .i64 k ∧ Aside (xs.take k = ys.take k) ∧ ∃ q, wr = w.drewN q) (fun i _ => n - (intOf i).toNat)
    case atStart => exact ⟨0, Nat.zero_le _, rfl, by simp [Aside], 0, rfl⟩
    case round =>
      obtain ⟨k, hk, rfl, ht, q, rfl⟩ := hrel
      by_cases hlt : k < n
      · obtain ⟨a, rfl, hca⟩ := HA'.out.at_ (k : Int) (by omega) (by omega)
        obtain ⟨b, rfl, hcb⟩ := HB'.out.at_ (k : Int) (by omega) (by omega)
        simp only [Int.toNat_natCast, rd] at hca hcb
        obtain ⟨x, hx⟩ : ∃ x, x = xs.getD k 0 := ⟨_, rfl⟩
        obtain ⟨y, hy⟩ : ∃ y, y = ys.getD k 0 := ⟨_, rfl⟩
        rw [← hx] at hca
        rw [← hy] at hcb
        have HX : Aside (x = xs.getD k 0 ∧ y = ys.getD k 0) := ⟨hx, hy⟩
        clear hx hy
        have hk0 : (0 : Int) ≤ (k : Int) := by omega
        have hk1 : (k : Int) < (n : Int) := by omega
        by_cases hxy : x = y
        · have hb : (x != y) = false := by simp [hxy]
          have HE : Aside (x = y) := hxy
          clear hxy
          go_wp2_with fail
          go_quiet (fail)
          go_wp2
          go_roundw
          case rel => exact ⟨k + 1, by omega, by go_num, take_eq_step (by rw [L.out.1]; exact hlt) (by rw [L.out.2]; exact hlt) ht.out (by rw [← HX.out.1, ← HX.out.2]; exact HE.out), _, rfl⟩
          case measure => simp [intOf]; omega
        · have hb : (x != y) = true := by simp [hxy]
          have HE : Aside (¬ x = y) := hxy
          clear hxy
          go_wp2_with fail
          go_quiet (fail)
          go_wp2
          go_ret
          refine ⟨?_, by first | exact ⟨_, rfl⟩ | exact ⟨_, World.drewN_drewN ..⟩⟩
          have hne : decide (xs = ys) = false := decide_eq_false (fun e => HE.out (by rw [HX.out.1, HX.out.2, e]))
          rw [hne]
          rfl
      · obtain rfl : k = n := by omega
        go_wp2
        go_ret
        refine ⟨?_, _, rfl⟩
        have e1 := ht.out
        rw [List.take_of_length_le (by rw [L.out.1]; exact Nat.le_refl _), List.take_of_length_le (by rw [L.out.2]; exact Nat.le_refl _)] at e1
        rw [decide_eq_true e1]
        rfl
  · have hb : ((n : Int) != (m : Int)) = true := by simp; omega
    have hne : decide (xs = ys) = false := decide_eq_false (fun e => hnm (by rw [← lx, ← ly, e]))
    rw [hne]
    clear hne lx ly HA HB
    go_enter Tryz.func9, Tryz.ntmps9
    go_wp2
    go_ret
    exact ⟨rfl, 0, rfl⟩
end Go.Proofs.YtmoakgkoahjijaaGreatDoor

/- The walk of the law PacketPuts. -/
set_option linter.unusedVariables false
set_option linter.unusedSimpArgs false
namespace Go.Proofs.YtmoakgkoahjijaaGreatDoor
open Go.RowKit PkMath
open PPut (toS putRes)

theorem nums_C {w : World} {A : Option Addr} {n : Nat} {xs : List Num} (h : ReadsNums w A n xs) : YtmoakgkoahjijaaGreatDoorW.PrintWords.Kd.C PPut.k79 w A n (xs.map toS) := by
  refine ⟨by simpa using h.1, h.2.1, fun hn => ?_⟩
  obtain ⟨b, off, hA, hb, hc⟩ := h.2.2 hn
  refine ⟨_, hA, fun j p hj => ?_⟩
  have hjl : j < xs.length := by simpa using (List.getElem?_eq_some_iff.1 hj).1
  have hp : p = toS (xs.getD j zeroNum) := by
    rw [List.getElem?_map, List.getElem?_eq_getElem hjl] at hj
    rw [List.getD_eq_getElem?_getD, List.getElem?_eq_getElem hjl]
    simpa using hj.symm
  subst hp
  obtain ⟨c0, c1, c2⟩ := hc j (by rw [← h.1]; exact hjl)
  refine ⟨[.int .i64 (xs.getD j zeroNum).W, .int .u64 (xs.getD j zeroNum).Hi, .int .u64 (xs.getD j zeroNum).Lo], rfl, PPut.k79_mk w (toS (xs.getD j zeroNum)), fun i u hu => ?_⟩
  rw [Addr.add_lit]
  match i, hu with
  | 0, hu => injection hu with hu; subst hu; exact c0
  | 1, hu => injection hu with hu; subst hu; exact c1
  | 2, hu => injection hu with hu; subst hu; exact c2
theorem C_ints {w : World} {A : Option Addr} {n : Nat} {xs : List Int} {k : IntKind} (h : YtmoakgkoahjijaaGreatDoorW.PrintWords.Kd.C (YtmoakgkoahjijaaGreatDoorW.PrintWords.Kd.int k) w A n xs) : Reads w k A n xs := by
  refine ⟨h.1, h.2.1, fun hn => ?_⟩
  obtain ⟨ad, hA, hc⟩ := h.2.2 hn
  refine ⟨ad, hA, fun j hj => ?_⟩
  have hjl : j < xs.length := by rw [h.1]; exact hj
  obtain ⟨c, h1, h2, h3⟩ := hc j xs[j] (List.getElem?_eq_getElem hjl)
  have h2 : c = [.int k xs[j]] := h2
  subst h2
  have := h3 0 _ rfl
  have e1 : (YtmoakgkoahjijaaGreatDoorW.PrintWords.Kd.int k).sz = 1 := rfl
  rw [e1, Nat.mul_one, Nat.add_zero] at this
  rw [this, List.getD_eq_getElem?_getD, List.getElem?_eq_getElem hjl]
  rfl
theorem RPut_any (A : Option Addr) (n c : Nat) (xs : List Num) (w : World) (hR : ReadsNums w A n xs) (hnc : n ≤ c) (hn : n ≤ 1048576) (hwf : ∀ j, j < n → (xs.getD j zeroNum).wf) :
    Calls Tryz.prog 8 #[.slice A n c] w fun e w' => ∃ B m k, e = .returned (.tuple #[.slice B m k, .int .i64 (putRes xs).2]) ∧ Reads w' .u8 B m (putRes xs).1 ∧ Below w.heap.size w w' := by
  have hl := hR.1
  obtain ⟨k, hk⟩ := PPut.ref_put xs (by omega) (fun j hj => hwf j (by omega))
  have h := PPut.pointsmanref02_Put.calls k A c (xs.map toS) (putRes xs).1 (putRes xs).2 w (by rw [List.length_map, hl]; exact nums_C hR) (by rw [List.length_map, hl]; exact hnc) hk
  rw [List.length_map, hl] at h
  refine h.mono ?_
  rintro e w' ⟨v, rfl, hr, hb⟩
  obtain ⟨B, k', rfl, _, hC⟩ := YtmoakgkoahjijaaGreatDoorW.PrintWords.Kd.R_reads hr
  exact ⟨B, _, k', rfl, C_ints hC, hb⟩
theorem first_bad (xs : List Num) : ∀ n, (∀ j, j < n → (xs.getD j zeroNum).ok) ∨ ∃ i, i < n ∧ ¬ (xs.getD i zeroNum).ok ∧ ∀ j, j < i → (xs.getD j zeroNum).ok := by
  intro n
  induction n with
  | zero => exact .inl fun j hj => by omega
  | succ n ih =>
    rcases ih with h | ⟨i, h1, h2, h3⟩
    · by_cases hb : (xs.getD n zeroNum).ok
      · refine .inl fun j hj => ?_
        rcases Nat.lt_or_ge j n with h' | h'
        · exact h j h'
        · obtain rfl : j = n := by omega
          exact hb
      · exact .inr ⟨n, by omega, hb, h⟩
    · exact .inr ⟨i, by omega, h2, h3⟩
theorem Put_any (A : Option Addr) (n c : Nat) (xs : List Num) (w : World) (hR : ReadsNums w A n xs) (hn : n ≤ 20000) (hwf : ∀ j, j < n → (xs.getD j zeroNum).wf) :
    Calls Tryz.prog 7 #[.slice A n c] w fun e w' => ∃ B m k, e = .returned (.tuple #[.slice B m k, .int .i64 (putRes xs).2]) ∧ w'.ownsRow w.heap.size 5 1 (.slice B m k) m (nums .u8 (putRes xs).1) ∧ m ≤ 65600 ∧ Below w.heap.size w w' := by
  have hl := hR.1
  rcases first_bad xs n with h | ⟨i, h1, h2, h3⟩
  · have hall : xs.all Num.okB = true := PPut.all_okB xs fun j hj => (Num.okB_iff _).2 (h j (by omega))
    have hok : allOk xs := fun j hj => h j (by omega)
    by_cases hbig : 524288 < (allBits xs).length
    · unfold putRes
      rw [if_pos hall, if_pos hbig]
      refine (Put_big A n c xs w hR (by omega) hwf hok hbig).mono ?_
      rintro e w' ⟨rfl, hb⟩
      exact ⟨_, _, _, rfl, World.ownsRow_nil _ _ _ _, by omega, hb⟩
    · unfold putRes
      rw [if_pos hall, if_neg hbig]
      refine (Put_ok A n c xs w hR (by omega) hwf hok (by omega)).mono ?_
      rintro e w' ⟨v, rfl, ho, hb⟩
      obtain ⟨B, L, k, rfl, hL⟩ := own_form ho
      have hL := hL.out
      subst hL
      exact ⟨_, _, _, rfl, ho, by omega, hb⟩
  · unfold putRes
    rw [PPut.not_all_okB xs i (by omega) (by rw [Bool.eq_false_iff]; exact fun hc => h2 ((Num.okB_iff _).1 hc))]
    refine (Put_bad A n c xs w hR (by omega) hwf i h1 h2 h3).mono ?_
    rintro e w' ⟨rfl, hb⟩
    exact ⟨_, _, _, rfl, World.ownsRow_nil _ _ _ _, by omega, hb⟩
set_option maxRecDepth 100000 in
set_option maxHeartbeats 6400000 in
theorem puts_law (A : Option Addr) (n c : Nat) (xs : List Num) (w : World) (hR : ReadsNums w A n xs) (hnc : n ≤ c) (hm : n ≤ 140737488355328) (hwf : ∀ j, j < n → (xs.getD j zeroNum).wf) :
    Calls Tryz.prog 3 #[.slice A n c] w fun e w' => e = .returned (.bool true) ∧ Below w.heap.size w w' := by
  have HR := aside' (And.intro hR (And.intro hwf hnc))
  clear hR hwf hnc
  by_cases hbig : 20000 < n
  · have g1 : decide (20000 < (n : Int)) = true := decide_eq_true (by omega)
    go_enter Tryz.func3, Tryz.ntmps3
    go_wp2
    go_ret
    exact ⟨rfl, Below.refl _ _⟩
  · have g1 : decide (20000 < (n : Int)) = false := decide_eq_false (by omega)
    have HTW := aside' (twinN_any A n c xs w HR.out.1 (by omega))
    go_enter Tryz.func3, Tryz.ntmps3
    go_wp2_with fail
    refine Calls.mono HTW.out ?_
    rintro e w2 ⟨g, k, rfl, hg1, hg2, ht, hb2⟩
    have HT := aside' (And.intro hg2 (And.intro ht hb2))
    have HF1 := aside' (Put_any (some ⟨g, 0, none⟩) n k xs w2 ht.2.1 (by omega) HR.out.2.1)
    obtain ⟨er, her⟩ : ∃ er : Int, er = (putRes xs).2 := ⟨_, rfl⟩
    rw [← her] at HF1
    clear hg1 hg2 ht hb2 HTW
    have HER := aside' her
    clear her
    go_wp2_with fail
    refine Calls.mono HF1.out ?_
    rintro e w3 ⟨X, mx, kx, rfl, hx1, hxm, hb3⟩
    have HX := aside' (And.intro hx1 hb3)
    have HF2 := aside' (Put_any (some ⟨g, 0, none⟩) n k xs w3 (HT.out.2.1.2.1.below hb3) (by omega) HR.out.2.1)
    rw [← HER.out] at HF2
    clear hx1 hb3 HF1
    go_wp2_with fail
    refine Calls.mono HF2.out ?_
    rintro e w4 ⟨Y, my, ky, rfl, hy1, hym, hb4⟩
    have hB4 : Below w.heap.size w w4 := HT.out.2.2.trans ((HX.out.2.trans (hb4.mono HX.out.2.size)).mono HT.out.2.2.size)
    have HY := aside' (And.intro hy1 (And.intro hb4 hB4))
    have HF3 := aside' (RPut_any A n c xs w4 (HR.out.1.below hB4) HR.out.2.2 (by omega) HR.out.2.1)
    rw [← HER.out] at HF3
    clear hy1 hb4 hB4 HF2
    go_wp2_with fail
    refine Calls.mono HF3.out ?_
    rintro e w5 ⟨Z, mz, kz, rfl, hz2, hb5⟩
    have hX5 := own_keep (own_keep HX.out.1 HY.out.2.1) hb5
    have hY5 := own_keep HY.out.1 hb5
    have HS1 := aside' (same_bytes X Z mx kx mz kz _ _ w5 (own_rd' hX5) hz2)
    have HS2 := aside' (fun q => same_bytes Y Z my ky mz kz _ _ (w5.drewN q) (own_rd' (w := w5) hY5) hz2)
    rw [decide_eq_true rfl] at HS1 HS2
    have hB5 : Below w2.heap.size w2 w5 := (HX.out.2.trans (HY.out.2.1.mono HX.out.2.size)).trans (hb5.mono (HX.out.2.trans (HY.out.2.1.mono HX.out.2.size)).size)
    have HT5 := aside' (And.intro (HT.out.2.1.below HT.out.1 hB5) (HT.out.2.2.trans (hB5.mono HT.out.2.2.size)))
    have H5 := aside' (And.intro hX5 (And.intro hY5 hb5))
    have er1 : (er != er) = false := by simp
    clear hz2 hb5 hX5 hY5 hB5 HF3
    go_wp2_with fail
    refine Calls.mono HS1.out ?_
    rintro e w6 ⟨rfl, q6, rfl⟩
    go_wp2_with fail
    refine Calls.mono (HS2.out q6) ?_
    rintro e w7 ⟨rfl, q7, rfl⟩
    go_wp2_with fail
    have HLF := aside' (leftN_any g k n c A xs (w5.drewN (q6 + q7)) HT5.out.1 (HR.out.1.below (below_drewN HT5.out.2 _)))
    refine Calls.mono HLF.out ?_
    rintro e w8 ⟨rfl, hb8⟩
    have hs8 := hb8.size
    simp only [World.heap_drewN] at hs8
    have H8 := aside' (And.intro (own_keep (w := w5.drewN (q6 + q7)) H5.out.1 hb8) (And.intro (own_keep (w := w5.drewN (q6 + q7)) H5.out.2.1 hb8) ((below_drewN HT5.out.2 (q6 + q7)).trans (hb8.mono (below_drewN HT5.out.2 (q6 + q7)).size))))
    have hs23 := HX.out.2.size
    have hs34 := HY.out.2.1.size
    have hs45 := H5.out.2.2.size
    have hs2 := HT.out.2.2.size
    have HBX := aside' (own_lt HX.out.1)
    have HBY := aside' (own_lt HY.out.1)
    clear hb8 HLF HS1 HS2 HT5 H5
    have HBO := aside' (heap_alloc_new w8 (.cells (bookCells 0 (.slice none 0 0)) 61))
    have HB0 := aside' (Bs.zero w8 w.heap.size (by omega))
    go_wp2_with ((with_reducible show wpList _ _ _ _ _ _); refine wpList_store_row rfl 61 (.tmp 10) (.tmp 52) rfl w8.heap.size (bookCells 0 (.slice none 0 0)) rfl rfl 61 (bookCells 0 (.slice none 0 0)) HBO.out (by kernel_rfl) rfl (by kernel_rfl) ?_; refine wpList_seen ?_; intro V hV; have HV := aside' hV; clear hV)
    have HVB : Aside (Bs V w.heap.size w8.heap.size (.slice none 0 0) [] (fun _ _ => False) (fun _ => 0) ∧ Foot (fun _ => False) w8 V) := aside' (by rw [HV.out]; exact HB0.out)
    have HVX := aside' (own_foot H8.out.1 HVB.out.2 (fun _ _ h => h))
    have HVY := aside' (own_foot H8.out.2.1 HVB.out.2 (fun _ _ h => h))
    have HVW := aside' (H8.out.2.2.trans (HVB.out.2.below (B := w.heap.size) (fun _ h => h.elim) H8.out.2.2.size))
    have hV8 := HVB.out.2.size
    have HZ0 := aside' (show ∀ q, Zo w8.heap.size (.slice none 0 0) (fun _ _ => False) q → q = w8.heap.size from fun q hq => by
      rcases hq with h | h | ⟨_, h⟩
      · exact h
      · simp [Value.ownBlock] at h
      · exact h.elim)
    have HK1 := aside' (HVB.out.1.keep (A := X) (n := mx) (c := kx) (base2 := w2.heap.size) (by simp) hs2 HVX.out (by omega) (fun q hq hz => by have h1 := HZ0.out q hz; have h2 := (HBX.out q hq).2; omega))
    clear HV HBO HB0
    go_wp2_with fail
    refine Calls.mono HK1.out ?_
    rintro e v1 ⟨⟨u1, rfl⟩, row1, F1, ns1, hbs1, hf1, hz1⟩
    have HB1 := aside' (And.intro hbs1 (And.intro hf1 hz1))
    have HVY1 := aside' (own_foot HVY.out hf1 (fun q hq hz => by have h1 := HZ0.out q hz; have h2 := (HBY.out q hq).2; omega))
    have HW1 := aside' (HVW.out.trans (hf1.below (B := w.heap.size) (fun q hz => by have h1 := HZ0.out q hz; omega) HVW.out.size))
    have HK2 := aside' (hbs1.keep (A := Y) (n := my) (c := ky) (base2 := w3.heap.size) (by simp) (by omega) HVY1.out (by omega) (fun q hq hz => by
      have h2 := HBY.out q hq
      rcases hz1 q hz with h | h | h
      · have h1 := HZ0.out q h; omega
      · have h3 := (HBX.out q h).2; omega
      · omega))
    clear hbs1 hf1 hz1 HK1
    go_wp2_with fail
    refine Calls.mono HK2.out ?_
    rintro e v2 ⟨⟨u2, rfl⟩, row2, F2, ns2, hbs2, hf2, hz2⟩
    have HW2 := aside' (HW1.out.trans (hf2.below (B := w.heap.size) (fun q hz => (HB1.out.1.lt q hz).1) HW1.out.size))
    have HA := aside' (hbs2.apart (by simp))
    have HL2 := aside' hbs2.lt
    clear hbs2 hf2 hz2 HK2
    go_wp2_with fail
    refine Calls.mono HA.out ?_
    rintro e v3 ⟨rfl, hf3⟩
    go_wp2
    go_ret
    exact ⟨rfl, HW2.out.trans (hf3.below (B := w.heap.size) (fun q hz => (HL2.out q hz).1) HW2.out.size)⟩
end Go.Proofs.YtmoakgkoahjijaaGreatDoor
