/-
  The cursor's Take, of bits that are there.
-/
import Derived.Test.YtipeeacplhgihaaTake
set_option linter.unusedVariables false
set_option linter.unusedSimpArgs false
namespace Go.Proofs.Ytipeeacplhgihaa
open Go.RowKit PkMath

/-- What bits tell, in two halves. -/
def hiOf (v : Nat) : Int := ((v / 18446744073709551616 : Nat) : Int)
def loOf (v : Nat) : Int := ((v % 18446744073709551616 : Nat) : Int)

theorem min2_run (a b n : Nat) (h : n = min a b) (W : World) : (Builtin.min_ #[3, 3] 3 #[.int .i64 (a : Int), .int .i64 (b : Int)]).run Try.prog W = .ok (.int .i64 (n : Int)) W := by
  have e : (if (b : Int) < (a : Int) then (b : Int) else (a : Int)) = (n : Int) := by split <;> omega
  simp [Builtin.min_, Builtin.min2]
  by_cases hb : b < a
  · rw [if_pos hb]; omega
  · rw [if_neg hb]; omega
/-- The bits of one byte, as Go takes them. -/
theorem part_eq (x : Int) (hx : 0 ≤ x ∧ x ≤ 255) (fk k : Nat) (h1 : 1 ≤ k) (h8 : k ≤ 8) : ∃ p : Nat, bits .and .u8 (x / 2 ^ fk) ((2 ^ k - 1) % 256) = (p : Int) ∧ p = x.toNat / 2 ^ fk % 2 ^ k := by
  refine ⟨x.toNat / 2 ^ fk % 2 ^ k, ?_, rfl⟩
  obtain ⟨n, rfl⟩ := Int.eq_ofNat_of_zero_le hx.1
  have hp : (2:Int) ^ fk = ((2 ^ fk : Nat) : Int) := by simp
  have hq : (2:Int) ^ k = ((2 ^ k : Nat) : Int) := by simp
  have hk : 2 ^ k ≤ 2 ^ 8 := Nat.pow_le_pow_right (by decide) h8
  have hpos : 0 < 2 ^ k := Nat.two_pow_pos k
  have hdiv : n / 2 ^ fk ≤ n := Nat.div_le_self _ _
  have e : ((2:Int) ^ k - 1) % 256 = 2 ^ k - 1 := by rw [hq]; omega
  rw [e, hp]
  have e2 : (n : Int) / ((2 ^ fk : Nat) : Int) = ((n / 2 ^ fk : Nat) : Int) := (Int.natCast_ediv n (2 ^ fk)).symm
  rw [e2, Int.toNat_natCast]
  generalize n / 2 ^ fk = q at *
  rw [bits_mask .u8 8 (by decide) wraps_u8 k h8 _ (by omega) (by omega), hq]
  simp
/-- Two halves, moved up by some bits, and these. -/
theorem halves (v t k m p : Nat) (hv : v < 2 ^ t) (htk : t + k ≤ 128) (h1 : 1 ≤ k) (h8 : k ≤ 8) (hm : m + k = 64) (hp : p < 2 ^ k) :
    bits .or .u64 (IntKind.u64.wrap (hiOf v * 2 ^ k)) (loOf v / 2 ^ m) = hiOf (v * 2 ^ k + p) ∧ bits .or .u64 (IntKind.u64.wrap (loOf v * 2 ^ k)) (p : Int) = loOf (v * 2 ^ k + p) := by
  have hb : v < 2 ^ (128 - k) := Nat.lt_of_lt_of_le hv (Nat.pow_le_pow_right (by decide) (by omega))
  have key : ∀ x y : Int, 0 ≤ x → x % 2 ^ k = 0 → x < 2 ^ 64 → 0 ≤ y → y < 2 ^ k → bits .or .u64 x y = x + y := fun x y a b c d e => by
    have h2 : (2 : Int) ^ k ≤ 2 ^ 64 := by exact_mod_cast Nat.pow_le_pow_right (n := 2) (by decide) (by omega : k ≤ 64)
    exact bits_join .u64 64 (by decide) wraps_u64 k x y a b c d e (by omega)
  unfold hiOf loOf
  have hm2 : m = 64 - k := by omega
  subst hm2
  clear hv hm htk
  obtain rfl | rfl | rfl | rfl | rfl | rfl | rfl | rfl : k = 1 ∨ k = 2 ∨ k = 3 ∨ k = 4 ∨ k = 5 ∨ k = 6 ∨ k = 7 ∨ k = 8 := by omega
  all_goals
    rw [IntKind.wrap_u64, IntKind.wrap_u64]
    simp only [Nat.reduceSub, Nat.reducePow] at hb hp ⊢
    rw [key _ _ (by omega) (by omega) (by omega) (by omega) (by omega), key _ _ (by omega) (by omega) (by omega) (by omega) (by omega)]
    constructor <;> omega
/-- A store into a block of another type. -/
theorem CurAt.far {base : Nat} {w : World} {g : Nat} {zs : List Int} {a : Nat} (h : CurAt base w g zs a) {p : Addr} (hg : p.block ≠ g) {cs : Array Value} (ht : w.heap[p.block]? = some (.cells cs 33 (0, 0))) (u : Value) : CurAt base (w.setCell p u) g zs a := by
  obtain ⟨h1, h2, h3, A, c, h4, h5, h6⟩ := h
  refine ⟨h1, h2, h3, A, c, ?_, ?_, h6⟩
  · rw [Below.heap_setCell _ _ _ _ (Ne.symm hg)]; exact h4
  · refine ⟨h5.1, h5.2.elim .inl ?_⟩
    rintro ⟨g2, cap, cur, e, e2, e3, r⟩
    refine .inr ⟨g2, cap, cur, e, e2, ?_, r⟩
    rw [Below.heap_setCell _ _ _ _ ?_]
    · exact e3
    · intro e4
      rw [← e4, e3] at ht
      injection ht with ht
      injection ht with _ ht _
      exact absurd ht (by decide)
/-- Bits that fit are not cut. -/
theorem cut_same (v w : Nat) (hv : v < 2 ^ w) (hw : w ≤ 128) : (cutHi w (hiOf v) = hiOf v ∧ cutLo w (loOf v) = loOf v) ∧ (0 ≤ hiOf v ∧ hiOf v ≤ 18446744073709551615) ∧ (0 ≤ loOf v ∧ loOf v ≤ 18446744073709551615) := by
  have h128 : v < 2 ^ 128 := Nat.lt_of_lt_of_le hv (Nat.pow_le_pow_right (by decide) hw)
  have hb : (0 ≤ hiOf v ∧ hiOf v ≤ 18446744073709551615) ∧ (0 ≤ loOf v ∧ loOf v ≤ 18446744073709551615) := by
    unfold hiOf loOf
    refine ⟨⟨by omega, by omega⟩, by omega, by omega⟩
  refine ⟨?_, hb⟩
  unfold cutHi cutLo
  by_cases h : w < 64
  · rw [if_pos h, if_pos h]
    have h64 : 2 ^ w ≤ 2 ^ 63 := Nat.pow_le_pow_right (by decide) (by omega)
    have hp : (2 : Int) ^ w = ((2 ^ w : Nat) : Int) := by simp
    unfold hiOf loOf
    refine ⟨by omega, ?_⟩
    rw [hp, Nat.mod_eq_of_lt (by omega)]
    exact Int.emod_eq_of_lt (by omega) (by omega)
  · rw [if_neg h, if_neg h]
    refine ⟨?_, rfl⟩
    have hp : (2 : Int) ^ (w - 64) = ((2 ^ (w - 64) : Nat) : Int) := by simp
    have hdiv : v / 18446744073709551616 < 2 ^ (w - 64) := by
      rw [Nat.div_lt_iff_lt_mul (by decide)]
      have : 2 ^ (w - 64) * 18446744073709551616 = 2 ^ w := by
        rw [show (18446744073709551616 : Nat) = 2 ^ 64 by decide, ← Nat.pow_add]
        congr 1
        omega
      omega
    unfold hiOf
    rw [hp]
    exact Int.emod_eq_of_lt (by omega) (by omega)
theorem win_zero (l : List Bool) (a : Nat) : win l a 0 = [] := by simp [win]

set_option maxRecDepth 100000 in
set_option maxHeartbeats 3200000 in
theorem Take_ok {base : Nat} {w : World} {g : Nat} {zs : List Int} {at_ : Nat} (hx : ∀ j, 0 ≤ zs.getD j 0 ∧ zs.getD j 0 ≤ 255) (h : CurAt base w g zs at_) (wd : Nat) (h1 : 1 ≤ wd) (h2 : wd ≤ 128) (h3 : at_ + wd ≤ 8 * zs.length) :
    Calls Try.prog 9 #[.pointer (some ⟨g, 0, none⟩), .int .i64 (wd : Int)] w fun e w' => e = .returned (.tuple #[bitsV wd (hiOf (numOf (win (bitsL zs) at_ wd))) (loOf (numOf (win (bitsL zs) at_ wd))), .int .i64 0]) ∧ CurAt base w' g zs (at_ + wd) ∧ Foot (fun k => k = g) w w' := by
  have hB := (Below.refl w.heap.size w).alloc (Nat.le_refl _) (.cells #[.int .i64 0, .int .u64 0, .int .u64 0] 33 (0,0))
  have H : Aside (CurAt base (w.alloc (.cells #[.int .i64 0, .int .u64 0, .int .u64 0] 33 (0,0))) g zs at_) := h.below hB
  have hgs := h.lt
  have hz6 := h.2.1
  have hd1 : decide ((wd : Int) < 1) = false := decide_eq_false (by omega)
  have hd2 : decide (128 < (wd : Int)) = false := decide_eq_false (by omega)
  have hd3 : (wd : Int) ≤ 8 * (zs.length : Int) - (at_ : Int) := by omega
  have HZ : Aside (∀ j, 0 ≤ zs.getD j 0 ∧ zs.getD j 0 ≤ 255) := hx
  have h4 : (w.alloc (.cells #[.int .i64 0, .int .u64 0, .int .u64 0] 33 (0,0))).heap[w.heap.size]? = some (.cells #[.int .i64 0, .int .u64 0, .int .u64 0] 33 (0,0)) := heap_alloc_new ..
  have HB : Aside (Below w.heap.size w (w.alloc (.cells #[.int .i64 0, .int .u64 0, .int .u64 0] 33 (0,0))) ∧ (w.alloc (.cells #[.int .i64 0, .int .u64 0, .int .u64 0] 33 (0,0))).heap[w.heap.size]? = some (.cells #[.int .i64 0, .int .u64 0, .int .u64 0] 33 (0,0))) := ⟨hB, h4⟩
  clear h hx hB h4
  generalize hV : w.alloc (.cells #[.int .i64 0, .int .u64 0, .int .u64 0] 33 (0,0)) = V at *
  have HV : Aside (w.alloc (.cells #[.int .i64 0, .int .u64 0, .int .u64 0] 33 (0,0)) = V) := hV
  clear hV
  go_enter Try.func9, Try.ntmps9
  go_wp2_with fail
  rw [HV.out]
  refine (gone_any H.out).mono ?_
  rintro e w' ⟨rfl, rfl⟩
  go_wp2_with fail
  refine (left1_any H.out).mono ?_
  rintro e w' ⟨rfl, q, rfl⟩
  go_wp2
  go_loopw [6, 7, 8] (fun hi lo n wr => ∃ t : Nat, t ≤ wd ∧ n = .int .i64 ((wd - t : Nat) : Int) ∧ hi = .int .u64 (hiOf (numOf (win (bitsL zs) at_ t))) ∧ lo = .int .u64 (loOf (numOf (win (bitsL zs) at_ t))) ∧ Aside (CurAt base wr g zs (at_ + t) ∧ Foot (fun k => k = g) V wr)) (fun _ _ n _ => (intOf n).toNat)
  case atStart => exact ⟨0, Nat.zero_le _, by simp, by rw [win_zero]; rfl, by rw [win_zero]; rfl, ⟨H.out.drewN q, (Foot.refl _ V).drewN q⟩⟩
  case round =>
    obtain ⟨t, ht, rfl, rfl, rfl, hI⟩ := hrel
    clear H
    by_cases hlt : t < wd
    · obtain ⟨a, ha⟩ : ∃ a, a = at_ + t := ⟨_, rfl⟩
      obtain ⟨k, hk⟩ : ∃ k, k = min (8 - a % 8) (wd - t) := ⟨_, rfl⟩
      have hk1 : 1 ≤ k := by omega
      have hk8 : k ≤ 8 := by omega
      have hak : a % 8 + k ≤ 8 := by omega
      have hktw : t + k ≤ wd := by omega
      rw [← ha] at hI
      obtain ⟨g2, c, hb, hbyte⟩ := hI.out.1.byte (a / 8) (by omega)
      have c0 : wr.cell? ⟨g, 0, none⟩ = some (.slice (some ⟨g2, 0, none⟩) zs.length c) := cellOf hb 0
      have c1 : wr.cell? ⟨g, 1, none⟩ = some (.int .i64 (a : Int)) := cellOf hb 1
      have f1 := frozenOf hb 1
      have hxb := HZ.out (a / 8)
      obtain ⟨j, hj⟩ : ∃ j, j = a / 8 := ⟨_, rfl⟩
      rw [← hj] at hbyte hxb
      have hjn : j < zs.length := by omega
      obtain ⟨fr, hfr⟩ : ∃ fr : Nat, fr = 8 - a % 8 := ⟨_, rfl⟩
      have HK : Aside (k = min (8 - a % 8) (wd - t) ∧ a = at_ + t ∧ j = a / 8 ∧ fr = 8 - a % 8) := ⟨hk, ha, hj, hfr⟩
      generalize hnt : wd - t = nn at *
      have HNT : Aside (wd - t = nn) := hnt
      have s1 : (8 : Int) - (a : Int) % 8 = (fr : Int) := by omega
      have s2 : (8 : Int) - ((a : Int).tmod 8) = (fr : Int) := by rw [Int.tmod_eq_emod_of_nonneg (by omega)]; exact s1
      have s3 : (a : Int) / 8 = (j : Int) := by omega
      have s4 : (a : Int).tdiv 8 = (j : Int) := by rw [Int.tdiv_eq_ediv_of_nonneg (by omega)]; exact s3
      have hnn : (0 : Int) < (nn : Int) := by omega
      have hmn := min2_run fr nn k (by omega)
      clear hb hk ha hj hfr hnt
      obtain ⟨fk, hfk⟩ : ∃ fk : Nat, fr = fk + k := ⟨fr - k, by have := HK.out; omega⟩
      have s5 : (fr : Int) - (k : Int) = (fk : Int) := by omega
      have s6 : (0 : Int) ≤ (j : Int) := by omega
      have s7 : (j : Int) < (zs.length : Int) := by omega
      have HFK : Aside (fr = fk + k) := hfk
      clear hfk
      generalize hbx : zs.getD j 0 = x at *
      have HBX : Aside (zs.getD j 0 = x) := hbx
      clear hbx
      have s8 : IntKind.i64.wrap (fk : Int) = (fk : Int) := by rw [IntKind.wrap_i64]; have := HFK.out; have := HK.out; omega
      have s9 : IntKind.i64.wrap (j : Int) = (j : Int) := by rw [IntKind.wrap_i64]; omega
      have s10 : (0 : Int) ≤ (fk : Int) := by omega
      have s11 : (0 : Int) ≤ (k : Int) := by omega
      obtain ⟨p, hp, hpv⟩ := part_eq x hxb fk k hk1 hk8
      have HPV : Aside (p = x.toNat / 2 ^ fk % 2 ^ k) := hpv
      have hpk : p < 2 ^ k := by rw [hpv]; exact Nat.mod_lt _ (Nat.two_pow_pos k)
      have hp256 : p ≤ 255 := by
        have : 2 ^ k ≤ 2 ^ 8 := Nat.pow_le_pow_right (by decide) hk8
        omega
      have HPK : Aside (p < 2 ^ k) := hpk
      clear hpv hpk
      obtain ⟨n2, hn2⟩ : ∃ n2 : Nat, n2 + k = nn := ⟨nn - k, by have := HK.out; omega⟩
      have s15 : (nn : Int) - (k : Int) = (n2 : Int) := by omega
      have HN2 : Aside (n2 + k = nn) := hn2
      have s17 : (n2 : Int) ≤ 128 := by have := HNT.out; omega
      have s18 : (0 : Int) ≤ (n2 : Int) := by omega
      have s19 : (nn : Int) ≤ 128 := by have := HNT.out; omega
      clear hn2
      obtain ⟨m, hm⟩ : ∃ m : Nat, m + k = 64 := ⟨64 - k, by omega⟩
      have s12 : (64 : Int) - (k : Int) = (m : Int) := by omega
      have s13 : IntKind.i64.wrap (m : Int) = (m : Int) := by rw [IntKind.wrap_i64]; omega
      have s14 : (0 : Int) ≤ (m : Int) := by omega
      have hbl : (bitsL zs).length = 8 * zs.length := bitsL_length zs
      have hnew : numOf (win (bitsL zs) at_ (t + k)) = numOf (win (bitsL zs) at_ t) * 2 ^ k + p := by
        have hw : numOf (win (bitsL zs) a k) = p := by
          have h := numOf_win_byte zs a k hak (by have := HK.out; omega) (by omega)
          rw [← HK.out.2.2.1, HBX.out] at h
          rw [h, HPV.out]
          congr 2
          have := HK.out; have := HFK.out
          congr 1
          omega
        rw [win_add, numOf_append, ← HK.out.2.1, hw, win_length _ _ _ (by have := HK.out; omega)]
      have hvlt : numOf (win (bitsL zs) at_ t) < 2 ^ t := by
        have h := numOf_lt (win (bitsL zs) at_ t)
        rwa [win_length _ _ _ (by omega)] at h
      have hh := halves (numOf (win (bitsL zs) at_ t)) t k m p hvlt (by omega) hk1 hk8 hm HPK.out
      rw [← hnew] at hh
      have HN : Aside (bits .or .u64 (IntKind.u64.wrap (hiOf (numOf (win (bitsL zs) at_ t)) * 2 ^ k)) (loOf (numOf (win (bitsL zs) at_ t)) / 2 ^ m) = hiOf (numOf (win (bitsL zs) at_ (t + k))) ∧ bits .or .u64 (IntKind.u64.wrap (loOf (numOf (win (bitsL zs) at_ t)) * 2 ^ k)) (p : Int) = loOf (numOf (win (bitsL zs) at_ (t + k)))) := hh
      clear hbl hnew hvlt hh
      have hI2 : Aside (∀ n, CurAt base ((wr.drewN n).setCell ⟨g, 1, none⟩ (.int .i64 ((a + k : Nat) : Int))) g zs (at_ + (t + k)) ∧ Foot (fun k => k = g) V ((wr.drewN n).setCell ⟨g, 1, none⟩ (.int .i64 ((a + k : Nat) : Int)))) := by
        intro n
        have e : at_ + (t + k) = a + k := by rw [HK.out.2.1]; omega
        rw [e]
        exact ⟨(hI.out.1.drewN n).step (a + k) (by have := HK.out; omega), (hI.out.2.drewN n).setCell (p := ⟨_, _, _⟩) (.inl rfl) _⟩
      generalize hhi : hiOf (numOf (win (bitsL zs) at_ t)) = hi at *
      generalize hlo : loOf (numOf (win (bitsL zs) at_ t)) = lo at *
      have HHL : Aside (hiOf (numOf (win (bitsL zs) at_ t)) = hi ∧ loOf (numOf (win (bitsL zs) at_ t)) = lo) := ⟨hhi, hlo⟩
      clear hhi hlo
      go_wp2_with fail
      go_quiet (fail)
      go_wp2_with fail
      go_quiet (fail)
      go_wp2
      go_roundw
      case rel => exact ⟨t + k, by have := HK.out; omega, by have h1 := HK.out; have h2 := HNT.out; have h3 := HN2.out; (rw [show wd - (t + k) = n2 by omega]), by rw [HN.out.1], by rw [HN.out.2], by have h := hI2.out; simpa [Aside] using h _⟩
      case measure => simp [intOf]; have h3 := HN2.out; omega
    · obtain rfl : t = wd := by omega
      have hbl : (bitsL zs).length = 8 * zs.length := bitsL_length zs
      have hvlt : numOf (win (bitsL zs) at_ t) < 2 ^ t := by
        have h := numOf_lt (win (bitsL zs) at_ t)
        rwa [win_length _ _ _ (by omega)] at h
      obtain ⟨hcut, hbd⟩ := cut_same (numOf (win (bitsL zs) at_ t)) t hvlt h2
      have HC : Aside (cutHi t (hiOf (numOf (win (bitsL zs) at_ t))) = hiOf (numOf (win (bitsL zs) at_ t)) ∧ cutLo t (loOf (numOf (win (bitsL zs) at_ t))) = loOf (numOf (win (bitsL zs) at_ t))) := hcut
      clear hbl hvlt hcut
      generalize hhi : hiOf (numOf (win (bitsL zs) at_ t)) = hi at *
      generalize hlo : loOf (numOf (win (bitsL zs) at_ t)) = lo at *
      have HHL : Aside (hiOf (numOf (win (bitsL zs) at_ t)) = hi ∧ loOf (numOf (win (bitsL zs) at_ t)) = lo) := ⟨hhi, hlo⟩
      clear hhi hlo
      have h0 : ((t - t : Nat) : Int) = 0 := by omega
      rw [h0]
      have h5 : wr.heap[w.heap.size]? = some (.cells #[.int .i64 0, .int .u64 0, .int .u64 0] 33 (0,0)) := hI.out.2.blk HB.out.2 (by show ¬ w.heap.size = g; omega)
      have HS : Aside (w.heap.size < wr.heap.size) := (Array.getElem?_eq_some_iff.1 h5).1
      clear h0
      go_wp2_with fail
      refine (of_any t hi lo _ h1 h2 hbd.1 hbd.2).mono ?_
      rintro e w2 ⟨rfl, hb2⟩
      rw [HC.out.1, HC.out.2]
      unfold bitsV
      have h6 := (hb2.block w.heap.size HS.out).trans h5
      have d0 : w2.cell? ⟨w.heap.size, 0, none⟩ = some (.int .i64 0) := cellOf h6 0
      have d1 : w2.cell? ⟨w.heap.size, 1, none⟩ = some (.int .u64 0) := cellOf h6 1
      have d2 : w2.cell? ⟨w.heap.size, 2, none⟩ = some (.int .u64 0) := cellOf h6 2
      have f0 := frozenOf h6 0
      have f1 := frozenOf h6 1
      have f2 := frozenOf h6 2
      have H6 : Aside _ := h6
      clear h5 h6
      go_wp2
      refine bodyPost_ret (results_row_tmp rfl _ _ w.heap.size 33 _ (0,0) _ rfl (set3 H6.out _ _ _) Try.underlying33 rfl (by kernel_rfl)) rfl ⟨by rw [HHL.out.1, HHL.out.2]; rfl, ?_, ?_⟩
      · have q0 := hI.out.1.below hb2
        have hne : w.heap.size ≠ g := by omega
        have q1 := q0.far (p := ⟨w.heap.size, 0, none⟩) hne H6.out (.int .i64 (t : Int))
        have q2 := q1.far (p := ⟨w.heap.size, 1, none⟩) hne (setCell_heap H6.out 0 _) (.int .u64 hi)
        exact q2.far (p := ⟨w.heap.size, 2, none⟩) hne (setCell_heap (setCell_heap H6.out 0 _) 1 _) (.int .u64 lo)
      · have r0 : Foot (fun k => k = g) w wr := (Foot.ofBelow HB.out.1 (fun k => k = g)).trans hI.out.2 (fun i hi => .inl hi)
        have r1 : Foot (fun k => k = g) w w2 := r0.trans (Foot.ofBelow hb2 (fun k => k = g)) (fun i hi => .inl hi)
        exact ((r1.setCell (p := ⟨w.heap.size, 0, none⟩) (.inr (Nat.le_refl _)) _).setCell (p := ⟨w.heap.size, 1, none⟩) (.inr (Nat.le_refl _)) _).setCell (p := ⟨w.heap.size, 2, none⟩) (.inr (Nat.le_refl _)) _
end Go.Proofs.Ytipeeacplhgihaa
