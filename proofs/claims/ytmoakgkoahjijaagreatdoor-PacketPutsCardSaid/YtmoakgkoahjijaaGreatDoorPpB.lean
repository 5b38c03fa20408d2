/-
  The document's Of of a number of so many bits is what is not cut off.
-/
import Derived.Test.YtmoakgkoahjijaaGreatDoorPpPPutx2
import Derived.Test.YtmoakgkoahjijaaGreatDoorPpA
import Derived.Test.YtmoakgkoahjijaaGreatDoorPpPPutx3
import Derived.Test.YtmoakgkoahjijaaGreatDoorPpA1
set_option linter.unusedVariables false
set_option linter.unusedSimpArgs false
namespace Go.Proofs.YtmoakgkoahjijaaGreatDoor.PPut
open Go.RowKit Go.Proofs.YtmoakgkoahjijaaGreatDoorW.PrintWords Go.Proofs.YtmoakgkoahjijaaGreatDoorW.PrintMore

/-- Bit i of a number. -/
def bitAt (hi lo : Int) (i : Nat) : Bool := if i < 64 then lo / 2 ^ i % 2 == 1 else hi / 2 ^ (i - 64) % 2 == 1
def bitsOf (hi lo : Int) (n : Nat) : List Bool := (List.range n).map (bitAt hi lo)
theorem bitsOf_length (hi lo : Int) (n : Nat) : (bitsOf hi lo n).length = n := by simp [bitsOf]
theorem bitsOf_succ (hi lo : Int) (n : Nat) : bitsOf hi lo (n + 1) = bitsOf hi lo n ++ [bitAt hi lo n] := by simp [bitsOf, List.range_succ]
theorem bitsOf_get (hi lo : Int) (n i : Nat) (h : i < n) : rdOf false (bitsOf hi lo n) (i : Int) = bitAt hi lo i := by
  simp [rdOf, bitsOf, h]
theorem div_pow_range (x : Int) (i : Nat) (h0 : 0 ≤ x) (h1 : x ≤ 18446744073709551615) : 0 ≤ x / 2 ^ i ∧ x / 2 ^ i < 2 ^ 64 := by
  have hp : (0 : Int) < 2 ^ i := Int.pow_pos (by omega)
  refine ⟨Int.ediv_nonneg h0 (by omega), ?_⟩
  have h2 : x / 2 ^ i ≤ x := Int.ediv_le_self _ h0
  have h3 : (2 : Int) ^ 64 = 18446744073709551616 := rfl
  omega
theorem and_one (x : Int) (i : Nat) (hi : i ≤ 64) (h0 : 0 ≤ x) (h1 : x ≤ 18446744073709551615) : Go.bits .and .u64 (shr .u64 x (i : Int)) 1 = x / 2 ^ i % 2 := by
  have e : shr .u64 x (i : Int) = x / 2 ^ i := by
    unfold shr
    rw [Int.toNat_natCast, Nat.min_eq_left (by simpa [IntKind.bits] using hi)]
  obtain ⟨a, b⟩ := div_pow_range x i h0 h1
  rw [e]
  have := bits_mask .u64 64 (by decide) wraps_u64 1 (by decide) (x / 2 ^ i) a b
  simpa using this
theorem wrap_of_small (x : Int) (h0 : -9223372036854775808 ≤ x) (h1 : x ≤ 9223372036854775807) : wrap64 x = x := by
  unfold wrap64
  omega
theorem bits_l0 (hi lo : Int) (h1 : 0 ≤ hi ∧ hi ≤ 18446744073709551615) (h2 : 0 ≤ lo ∧ lo ≤ 18446744073709551615) (w : Nat) (hw : w ≤ 128) (d : Nat) : ∀ (i k : Nat), i + d = w → 2 * d + 2 ≤ k → pointsmanref01_Bits.l0 k (bitsOf hi lo i) (i : Int) (w : Int) hi lo = some (bitsOf hi lo w) := by
  induction d with
  | zero =>
    intro i k h hk
    obtain rfl : i = w := by omega
    obtain ⟨k, rfl⟩ : ∃ m, k = m + 1 + 1 := ⟨k - 2, by omega⟩
    rw [pointsmanref01_Bits.l0, if_neg (by omega), pointsmanref01_Bits.j1, if_neg (by simp)]
  | succ d ih =>
    intro i k h hk
    obtain ⟨k, rfl⟩ : ∃ m, k = m + 1 + 1 := ⟨k - 2, by omega⟩
    have hlen : (bitsOf hi lo i).length < 140737488355328 := by rw [bitsOf_length]; omega
    have hn : wrap64 ((i : Int) + 1) = ((i + 1 : Nat) : Int) := by rw [wrap_of_small _ (by omega) (by omega)]; omega
    have ih' := ih (i + 1) k (by omega) (by omega)
    rw [bitsOf_succ] at ih'
    rw [pointsmanref01_Bits.l0, if_pos (by omega), pointsmanref01_Bits.j1, if_pos (decide_eq_true (by omega)), hn]
    by_cases h64 : i < 64
    · rw [if_pos (by omega), if_pos (by omega), if_pos hlen, and_one lo i (by omega) h2.1 h2.2]
      have e : bitAt hi lo i = (lo / 2 ^ i % 2 == 1) := by unfold bitAt; rw [if_pos h64]
      rw [← e]
      exact ih'
    · have e64 : wrap64 ((i : Int) - 64) = ((i - 64 : Nat) : Int) := by rw [wrap_of_small _ (by omega) (by omega)]; omega
      rw [if_neg (by omega), e64, if_pos (by omega), if_pos hlen, and_one hi (i - 64) (by omega) h1.1 h1.2]
      have e : bitAt hi lo i = (hi / 2 ^ (i - 64) % 2 == 1) := by unfold bitAt; rw [if_neg h64]
      rw [← e]
      exact ih'
theorem ref_bits (hi lo : Int) (h1 : 0 ≤ hi ∧ hi ≤ 18446744073709551615) (h2 : 0 ≤ lo ∧ lo ≤ 18446744073709551615) (w : Nat) (hw : w ≤ 128) (k : Nat) (hk : 258 ≤ k) : pointsmanref01_Bits.f k (w : Int) hi lo = some (bitsOf hi lo w) := by
  unfold pointsmanref01_Bits.f
  exact bits_l0 hi lo h1 h2 w hw w 0 k (by omega) (by omega)

theorem shl_one (i : Nat) (hi : i < 64) : shl .u64 1 (i : Int) = 2 ^ i := by
  unfold shl
  rw [Int.toNat_natCast, Nat.min_eq_left (by simp [IntKind.bits]; omega), Int.one_mul]
  refine wraps_u64 _ (Int.pow_nonneg (by omega)) ?_
  have h : (2 : Nat) ^ i < 2 ^ 64 := Nat.pow_lt_pow_right (by decide) hi
  exact_mod_cast h
theorem mod_succ (x : Int) (i : Nat) (h0 : 0 ≤ x) : x % 2 ^ (i + 1) = x % 2 ^ i + (x / 2 ^ i % 2) * 2 ^ i := by
  have hp : (0 : Int) < 2 ^ i := Int.pow_pos (by omega)
  rw [Int.pow_succ]
  generalize (2 : Int) ^ i = p at *
  have h1 := Int.emod_add_mul_ediv x p
  have h2 := Int.emod_add_mul_ediv (x / p) 2
  have h3 : x / p / 2 = x / (p * 2) := Int.ediv_ediv_of_nonneg (by omega)
  have h4 := Int.emod_add_mul_ediv x (p * 2)
  rw [h3] at h2
  generalize x / (p * 2) = q at *
  generalize x / p % 2 = r at *
  generalize x / p = s at *
  subst h2
  have e1 : p * (r + 2 * q) = p * r + p * 2 * q := by rw [Int.mul_add, ← Int.mul_assoc]
  have e2 : r * p = p * r := Int.mul_comm _ _
  omega
theorem or_bit (x : Int) (i : Nat) (hi : i < 64) (h0 : 0 ≤ x) : Go.bits .or .u64 (x % 2 ^ i) (2 ^ i) = x % 2 ^ i + 2 ^ i := by
  have hp : (0 : Int) < 2 ^ i := Int.pow_pos (by omega)
  have hlt : (2 : Int) ^ i < 2 ^ 64 := by
    have h : (2 : Nat) ^ i < 2 ^ 64 := Nat.pow_lt_pow_right (by decide) hi
    exact_mod_cast h
  have ha0 : 0 ≤ x % 2 ^ i := Int.emod_nonneg _ (by omega)
  have ha1 : x % 2 ^ i < 2 ^ i := Int.emod_lt_of_pos _ hp
  generalize x % 2 ^ i = a at *
  obtain ⟨a, rfl⟩ := Int.eq_ofNat_of_zero_le ha0
  have e : (2 : Int) ^ i = ((2 ^ i : Nat) : Int) := by simp
  have ha2 : a < 2 ^ i := by rw [e] at ha1; omega
  have hi2 : 2 ^ i < 2 ^ 64 := Nat.pow_lt_pow_right (by decide) hi
  rw [e, (bits_nat .u64 64 (by decide) wraps_u64 a (2 ^ i) (by omega) hi2).2, Nat.or_comm]
  have h := Nat.two_pow_add_eq_or_of_lt ha2 1
  rw [Nat.mul_one] at h
  rw [← h]
  omega
theorem lo_step (lo : Int) (i : Nat) (h0 : 0 ≤ lo ∧ lo ≤ 18446744073709551615) (hi : i < 64) : (if bitAt 0 lo i = true then Go.bits .or .u64 (lo % 2 ^ i) (shl .u64 1 (i : Int)) else lo % 2 ^ i) = lo % 2 ^ (i + 1) := by
  rw [mod_succ lo i h0.1, shl_one i hi, or_bit lo i hi h0.1]
  have h2 : lo / 2 ^ i % 2 = 0 ∨ lo / 2 ^ i % 2 = 1 := by omega
  unfold bitAt
  rw [if_pos hi]
  rcases h2 with h | h <;> simp [h]
theorem pow64_mod (x : Int) (h0 : 0 ≤ x ∧ x ≤ 18446744073709551615) : x % 2 ^ 64 = x := by
  have h3 : (2 : Int) ^ 64 = 18446744073709551616 := rfl
  omega
/-- The two halves, as far as i bits. -/
def partLo (lo : Int) (i : Nat) : Int := if i < 64 then lo % 2 ^ i else lo
def partHi (hi : Int) (i : Nat) : Int := if i < 64 then 0 else hi % 2 ^ (i - 64)
theorem number_l0 (hi lo : Int) (h1 : 0 ≤ hi ∧ hi ≤ 18446744073709551615) (h2 : 0 ≤ lo ∧ lo ≤ 18446744073709551615) (w : Nat) (hw : w ≤ 128) (d : Nat) : ∀ (i k : Nat), i + d = w → d + 1 ≤ k →
    pointsmanref01_Number.l0 k (bitsOf hi lo w) (i : Int) (w : Int) (partHi hi i) (partLo lo i) = some ((w : Int), partHi hi w, partLo lo w) := by
  induction d with
  | zero =>
    intro i k h hk
    obtain rfl : i = w := by omega
    obtain ⟨k, rfl⟩ : ∃ m, k = m + 1 := ⟨k - 1, by omega⟩
    simp only [pointsmanref01_Number.l0]
    rw [bitsOf_length, if_neg (by omega)]
  | succ d ih =>
    intro i k h hk
    obtain ⟨k, rfl⟩ : ∃ m, k = m + 1 := ⟨k - 1, by omega⟩
    have hn : wrap64 ((i : Int) + 1) = ((i + 1 : Nat) : Int) := by rw [wrap_of_small _ (by omega) (by omega)]; omega
    have ih' := ih (i + 1) k (by omega) (by omega)
    simp only [pointsmanref01_Number.l0]
    rw [bitsOf_length, if_pos (by omega), if_pos (by omega), hn, bitsOf_get hi lo w i (by omega)]
    by_cases h64 : i < 64
    · have e1 : partHi hi (i + 1) = partHi hi i := by
        unfold partHi
        rw [if_pos h64]
        by_cases h : i + 1 < 64
        · rw [if_pos h]
        · rw [if_neg h, show i + 1 - 64 = 0 by omega]; simp
      have e2 : (if bitAt hi lo i = true then Go.bits .or .u64 (partLo lo i) (shl .u64 1 (i : Int)) else partLo lo i) = partLo lo (i + 1) := by
        have hb : bitAt hi lo i = bitAt 0 lo i := by unfold bitAt; rw [if_pos h64, if_pos h64]
        rw [hb]
        have := lo_step lo i h2 h64
        have e3 : partLo lo i = lo % 2 ^ i := by unfold partLo; rw [if_pos h64]
        have e4 : partLo lo (i + 1) = lo % 2 ^ (i + 1) := by
          unfold partLo
          by_cases h : i + 1 < 64
          · rw [if_pos h]
          · rw [if_neg h, show i + 1 = 64 by omega, pow64_mod lo h2]
        rw [e3, e4]; exact this
      rw [e1] at ih'
      rw [← e2] at ih'
      by_cases hb : bitAt hi lo i = true
      · rw [if_pos hb, if_pos (by omega)]
        rw [if_pos hb] at ih'
        exact ih'
      · rw [if_neg hb]
        rw [if_neg hb] at ih'
        exact ih'
    · have e64 : wrap64 ((i : Int) - 64) = ((i - 64 : Nat) : Int) := by rw [wrap_of_small _ (by omega) (by omega)]; omega
      have e1 : partLo lo (i + 1) = partLo lo i := by unfold partLo; rw [if_neg h64, if_neg (by omega)]
      have e2 : (if bitAt hi lo i = true then Go.bits .or .u64 (partHi hi i) (shl .u64 1 ((i - 64 : Nat) : Int)) else partHi hi i) = partHi hi (i + 1) := by
        have hb : bitAt hi lo i = bitAt 0 hi (i - 64) := by unfold bitAt; rw [if_neg h64, if_pos (by omega)]
        rw [hb]
        have := lo_step hi (i - 64) h1 (by omega)
        have e3 : partHi hi i = hi % 2 ^ (i - 64) := by unfold partHi; rw [if_neg h64]
        have e4 : partHi hi (i + 1) = hi % 2 ^ (i - 64 + 1) := by unfold partHi; rw [if_neg (by omega), show i + 1 - 64 = i - 64 + 1 by omega]
        rw [e3, e4]; exact this
      rw [e1] at ih'
      rw [← e2] at ih'
      by_cases hb : bitAt hi lo i = true
      · rw [if_pos hb, if_neg (by omega), e64, if_pos (by omega)]
        rw [if_pos hb] at ih'
        exact ih'
      · rw [if_neg hb]
        rw [if_neg hb] at ih'
        exact ih'
theorem ref_number (hi lo : Int) (h1 : 0 ≤ hi ∧ hi ≤ 18446744073709551615) (h2 : 0 ≤ lo ∧ lo ≤ 18446744073709551615) (w : Nat) (hw : w ≤ 128) (k : Nat) (hk : 258 ≤ k) : pointsmanref01_Number.f k (bitsOf hi lo w) = some ((w : Int), cutHi w hi, cutLo w lo) := by
  unfold pointsmanref01_Number.f
  rw [bitsOf_length]
  have h := number_l0 hi lo h1 h2 w hw w 0 k (by omega) (by omega)
  have e0 : partHi hi 0 = 0 := rfl
  have e1 : partLo lo 0 = 0 := by unfold partLo; simp
  rw [e0, e1] at h
  exact h
theorem ref_of (hi lo : Int) (h1 : 0 ≤ hi ∧ hi ≤ 18446744073709551615) (h2 : 0 ≤ lo ∧ lo ≤ 18446744073709551615) (w : Nat) (hw0 : 1 ≤ w) (hw : w ≤ 128) (k : Nat) (hk : 259 ≤ k) : pointsmanref01_Of.f k (w : Int) hi lo = some ((w : Int), cutHi w hi, cutLo w lo, 0) := by
  obtain ⟨k, rfl⟩ : ∃ m, k = m + 1 := ⟨k - 1, by omega⟩
  unfold pointsmanref01_Of.f
  rw [if_neg (by omega), decide_eq_false (by omega)]
  simp only [pointsmanref01_Of.j0]
  rw [if_neg (by decide), ref_bits hi lo h1 h2 w hw k (by omega)]
  simp only [Option.bind_some]
  rw [ref_number hi lo h1 h2 w hw k (by omega)]
  rfl
theorem ref_of_bad (hi lo w : Int) (h : w < 1 ∨ 128 < w) (k : Nat) (hk : 1 ≤ k) : pointsmanref01_Of.f k w hi lo = some (0, 0, 0, 1) := by
  obtain ⟨k, rfl⟩ : ∃ m, k = m + 1 := ⟨k - 1, by omega⟩
  unfold pointsmanref01_Of.f
  by_cases h1 : w < 1
  · rw [if_pos h1]; simp [pointsmanref01_Of.j0]
  · rw [if_neg h1, decide_eq_true (by omega)]; simp [pointsmanref01_Of.j0]
end Go.Proofs.YtmoakgkoahjijaaGreatDoor.PPut

/- The document's Put over numbers alone: the bits one behind the other, packed; or refused. -/
set_option linter.unusedVariables false
set_option linter.unusedSimpArgs false
namespace Go.Proofs.YtmoakgkoahjijaaGreatDoor.PPut
open Go.RowKit Go.Proofs.YtmoakgkoahjijaaGreatDoorW.PrintWords Go.Proofs.YtmoakgkoahjijaaGreatDoorW.PrintLast Go.Proofs.YtmoakgkoahjijaaGreatDoorW.PrintMore PkMath

def toS (x : Num) : S79 := ⟨x.W, x.Hi, x.Lo⟩
theorem rd_toS (xs : List Num) (i : Nat) : rd_T79 (xs.map toS) (i : Int) = toS (xs.getD i zeroNum) := by
  simp only [rd_T79, Int.toNat_natCast, List.getD_eq_getElem?_getD, List.getElem?_map]
  cases xs[i]? <;> rfl
theorem check_ref (x : Num) (hw : x.wf) (k : Nat) (hk : 300 ≤ k) : pointsmanref01_Check.f k x.W x.Hi x.Lo = some x.okB := by
  unfold pointsmanref01_Check.f
  by_cases h : 1 ≤ x.W ∧ x.W ≤ 128
  · obtain ⟨n, hn⟩ := Int.eq_ofNat_of_zero_le (show 0 ≤ x.W by omega)
    have h3 := ref_of x.Hi x.Lo hw.2.1 hw.2.2 n (by omega) (by omega) k (by omega)
    rw [hn, h3]
    have e : x.W.toNat = n := by omega
    simp only [Option.bind_some, if_true, beq_self_eq_true, Bool.true_and]
    congr 1
    unfold Num.okB
    rw [e]
    by_cases h1 : cutHi n x.Hi = x.Hi <;> by_cases h2 : cutLo n x.Lo = x.Lo <;> simp [h1, h2, h]
  · have h3 := ref_of_bad x.Hi x.Lo x.W (by omega) k (by omega)
    rw [h3]
    simp only [Option.bind_some]
    rw [if_neg (by decide)]
    congr 1
    unfold Num.okB
    rw [decide_eq_false (by omega)]
/-- A number's bits, the lowest first and the highest first. -/
theorem bitAt_test (x : Num) (hw : x.wf) (i : Nat) (hi : i < 128) : bitAt x.Hi x.Lo i = x.val.testBit i := by
  obtain ⟨h, hh⟩ := Int.eq_ofNat_of_zero_le hw.2.1.1
  obtain ⟨l, hl⟩ := Int.eq_ofNat_of_zero_le hw.2.2.1
  have hlb : l < 2 ^ 64 := by have := hw.2.2.2; rw [hl] at this; have e : (2 : Nat) ^ 64 = 18446744073709551616 := by decide
                              omega
  unfold bitAt Num.val
  rw [hh, hl, Int.toNat_natCast, Int.toNat_natCast]
  have e64 : h * 18446744073709551616 + l = 2 ^ 64 * h + l := by rw [Nat.mul_comm]
  rw [e64, Nat.testBit_two_pow_mul_add _ hlb]
  have key : ∀ (v j : Nat), ((v : Int) / 2 ^ j % 2 == 1) = v.testBit j := by
    intro v j
    have e1 : ((v : Int) / 2 ^ j % 2) = ((v / 2 ^ j % 2 : Nat) : Int) := by push_cast; rfl
    rw [e1, Nat.testBit_eq_decide_div_mod_eq]
    by_cases h : v / 2 ^ j % 2 = 1
    · rw [h]; rfl
    · have h0 : v / 2 ^ j % 2 = 0 := by omega
      rw [h0]; rfl
  by_cases h64 : i < 64
  · rw [if_pos h64, if_pos h64, key]
  · rw [if_neg h64, if_neg h64, key]
theorem shl8 (r : Nat) (hr : r < 8) : shl .u8 1 ((7 - r : Nat) : Int) = ((2 ^ (7 - r) : Nat) : Int) := by
  have : r = 0 ∨ r = 1 ∨ r = 2 ∨ r = 3 ∨ r = 4 ∨ r = 5 ∨ r = 6 ∨ r = 7 := by omega
  rcases this with rfl | rfl | rfl | rfl | rfl | rfl | rfl | rfl <;> decide
theorem or8 (q r : Nat) (hq : q < 256) (hr : r < 8) : Go.bits .or .u8 (q : Int) (shl .u8 1 ((7 - r : Nat) : Int)) = ((q ||| 2 ^ (7 - r) : Nat) : Int) := by
  rw [shl8 r hr]
  exact or_u8 q (2 ^ (7 - r)) hq (Nat.lt_of_le_of_lt (Nat.pow_le_pow_right (by decide) (show 7 - r ≤ 7 by omega)) (by decide))
end Go.Proofs.YtmoakgkoahjijaaGreatDoor.PPut

/- The document's Put over numbers alone: the bits one behind the other, packed; or refused. -/
set_option linter.unusedVariables false
set_option linter.unusedSimpArgs false
namespace Go.Proofs.YtmoakgkoahjijaaGreatDoor.PPut
open Go.RowKit Go.Proofs.YtmoakgkoahjijaaGreatDoorW.PrintWords Go.Proofs.YtmoakgkoahjijaaGreatDoorW.PrintLast Go.Proofs.YtmoakgkoahjijaaGreatDoorW.PrintMore PkMath

theorem w_add (a : Nat) (h : a ≤ 8000000) : wrap64 ((a : Int) + 1) = ((a + 1 : Nat) : Int) := (wrap_of_small _ (by omega) (by omega)).trans (by omega)
theorem w_sub (j : Nat) (h : j ≤ 128) : wrap64 ((j : Int) - 1) = (j : Int) - 1 := wrap_of_small _ (by omega) (by omega)
theorem w_id (a : Nat) (h : a ≤ 8000000) : wrap64 (a : Int) = (a : Int) := wrap_of_small _ (by omega) (by omega)
theorem w_7 (r : Nat) (h : r < 8) : wrap64 (7 - (r : Int)) = ((7 - r : Nat) : Int) := (wrap_of_small _ (by omega) (by omega)).trans (by omega)
set_option maxHeartbeats 1000000 in
/-- The bits of one number go behind. -/
theorem put_l2 (xs : List S79) (M i : Nat) (x : Num) (hw : x.wf) (n : Nat) (hn : n ≤ 128) (r : List Int × Int) (hM : M ≤ 1000000) : ∀ (j : Nat), j ≤ n → ∀ (pre : List Bool) (k : Nat), pre.length + j ≤ 8 * M →
    pointsmanref02_Put.l1 k xs (pack (pre ++ (bitsOfNum n x.val).drop (n - j)) M) ((pre.length + j : Nat) : Int) (wrap64 ((i : Int) + 1)) = some r →
    pointsmanref02_Put.l2 (k + j + 1) xs (pack pre M) (pre.length : Int) (i : Int) (bitsOf x.Hi x.Lo n) ((j : Int) - 1) = some r := by
  intro j
  induction j with
  | zero =>
    intro _ pre k hp h
    rw [pointsmanref02_Put.l2, if_neg (by omega)]
    rw [List.drop_eq_nil_of_le (by rw [bitsOfNum_length]; omega)] at h
    simpa using h
  | succ j ih =>
    intro hj pre k hp h
    have hbl : (bitsOfNum n x.val).length = n := bitsOfNum_length _ _
    have hlt : n - (j + 1) < (bitsOfNum n x.val).length := by omega
    have hdrop : (bitsOfNum n x.val).drop (n - (j + 1)) = (bitsOfNum n x.val).getD (n - (j + 1)) false :: (bitsOfNum n x.val).drop (n - j) := by
      rw [List.drop_eq_getElem_cons hlt, show n - (j + 1) + 1 = n - j by omega]
      simp [List.getD_eq_getElem?_getD, List.getElem?_eq_getElem hlt]
    have hbit : (bitsOfNum n x.val).getD (n - (j + 1)) false = bitAt x.Hi x.Lo j := by
      rw [bitsOfNum_getD _ _ _ (by omega), show n - 1 - (n - (j + 1)) = j by omega, bitAt_test x hw j (by omega)]
    rw [hdrop, hbit] at h
    have hrec : ∀ b : Bool, bitAt x.Hi x.Lo j = b → pointsmanref02_Put.l2 (k + j + 1) xs (pack (pre ++ [b]) M) ((pre ++ [b]).length : Int) (i : Int) (bitsOf x.Hi x.Lo n) ((j : Int) - 1) = some r := by
      intro b e
      have e1 : (pre ++ [b]) ++ (bitsOfNum n x.val).drop (n - j) = pre ++ b :: (bitsOfNum n x.val).drop (n - j) := by rw [List.append_assoc]; rfl
      have e2 : (pre ++ [b]).length + j = pre.length + (j + 1) := by rw [List.length_append, List.length_singleton]; omega
      rw [e] at h
      exact ih (by omega) (pre ++ [b]) k (by rw [e2]; exact hp) (by rw [e1, e2]; exact h)
    have hq : pre.length / 8 < M := by omega
    have hq0 : (0 : Int) ≤ ((pre.length / 8 : Nat) : Int) := by omega
    have hqM : ((pre.length / 8 : Nat) : Int) < ((pack pre M).length : Int) := by rw [pack_length]; omega
    have hr8 : pre.length % 8 < 8 := Nat.mod_lt _ (by decide)
    have hr0 : (0 : Int) ≤ ((7 - pre.length % 8 : Nat) : Int) := by omega
    have hj0 : (j : Int) ≥ 0 := by omega
    have hj1 : (0 : Int) ≤ (j : Int) := by omega
    have hj2 : (j : Int) < ((bitsOf x.Hi x.Lo n).length : Int) := by rw [bitsOf_length]; omega
    have hj3 : j < n := by omega
    have hpb : (pack pre M).getD (pre.length / 8) 0 = (packByte pre (pre.length / 8) : Int) := pack_getD _ _ _ hq
    have hd : Int.tdiv (pre.length : Int) 8 = ((pre.length / 8 : Nat) : Int) := by rw [Int.tdiv_eq_ediv_of_nonneg (by omega)]; omega
    have hm : Int.tmod (pre.length : Int) 8 = ((pre.length % 8 : Nat) : Int) := by rw [Int.tmod_eq_emod_of_nonneg (by omega)]; omega
    have hx10 : ((j + 1 : Nat) : Int) - 1 = (j : Int) := by omega
    have hpl : pre.length ≤ 8000000 := by omega
    have hjb : j ≤ 128 := by omega
    have hpl8 : pre.length / 8 ≤ 8000000 := by omega
    have hfu : k + (j + 1) + 1 = (k + j + 1) + 1 := by omega
    clear h ih hdrop hbit hlt hbl hp
    have e : Go.Proofs.YtmoakgkoahjijaaGreatDoorW.PrintWords.rd (pack pre M) ((pre.length / 8 : Nat) : Int) = (packByte pre (pre.length / 8) : Int) := by
      show (pack pre M).getD ((pre.length / 8 : Nat) : Int).toNat 0 = _
      rw [Int.toNat_natCast]
      exact hpb
    have ho := or8 (packByte pre (pre.length / 8)) (pre.length % 8) (packByte_lt _ _) hr8
    rw [hfu, pointsmanref02_Put.l2, hx10, if_pos hj0, if_pos hj1, if_pos hj2, bitsOf_get _ _ _ _ hj3, w_add _ hpl, w_sub _ hjb]
    by_cases hb : bitAt x.Hi x.Lo j = true
    · have hr := hrec true hb
      rw [pack_true pre M hq, List.length_append, List.length_singleton] at hr
      rw [if_pos hb, hd, hm, w_id _ hpl8, w_7 _ hr8, if_pos hq0, if_pos hqM, if_pos hr0, Int.toNat_natCast, e, ho]
      exact hr
    · have hr := hrec false (by simpa using hb)
      rw [pack_false, List.length_append, List.length_singleton] at hr
      rw [if_neg hb]
      exact hr
end Go.Proofs.YtmoakgkoahjijaaGreatDoor.PPut

/- The document's Put, whole: what it answers to any numbers. -/
set_option linter.unusedVariables false
set_option linter.unusedSimpArgs false
namespace Go.Proofs.YtmoakgkoahjijaaGreatDoor.PPut
open Go.RowKit Go.Proofs.YtmoakgkoahjijaaGreatDoorW.PrintWords Go.Proofs.YtmoakgkoahjijaaGreatDoorW.PrintLast Go.Proofs.YtmoakgkoahjijaaGreatDoorW.PrintMore PkMath

/-- What is put together of any numbers. -/
def putRes (xs : List Num) : List Int × Int := if xs.all Num.okB then (if 524288 < (allBits xs).length then ([], 3) else (pack (allBits xs) (((allBits xs).length + 7) / 8), 0)) else ([], 1)
theorem map_len (xs : List Num) : (xs.map toS).length = xs.length := by simp
theorem all_okB (xs : List Num) (h : ∀ j, j < xs.length → (xs.getD j zeroNum).okB = true) : xs.all Num.okB = true := by
  rw [List.all_eq_true]
  intro x hx
  obtain ⟨j, hj, rfl⟩ := List.mem_iff_getElem.1 hx
  have := h j hj
  rwa [List.getD_eq_getElem?_getD, List.getElem?_eq_getElem hj] at this
theorem not_all_okB (xs : List Num) (j : Nat) (hj : j < xs.length) (h : (xs.getD j zeroNum).okB = false) : xs.all Num.okB = false := by
  rw [List.all_eq_false]
  refine ⟨xs[j], List.getElem_mem hj, ?_⟩
  rw [List.getD_eq_getElem?_getD, List.getElem?_eq_getElem hj] at h
  simp only [Option.getD_some] at h
  rw [h]; decide
theorem put_l1 (xs : List Num) (M : Nat) (hM : M ≤ 65536) (hwf : ∀ j, j < xs.length → (xs.getD j zeroNum).wf) (hok : allOk xs) (hb : (allBits xs).length ≤ 8 * M) : ∀ (d i : Nat), i + d = xs.length → ∀ k, d * 200 + 400 ≤ k →
    pointsmanref02_Put.l1 k (xs.map toS) (pack (allBits (xs.take i)) M) ((allBits (xs.take i)).length : Int) (i : Int) = some (pack (allBits xs) M, 0) := by
  intro d
  induction d with
  | zero =>
    intro i hi k hk
    obtain ⟨k, rfl⟩ : ∃ m, k = m + 1 := ⟨k - 1, by omega⟩
    rw [pointsmanref02_Put.l1, map_len, if_neg (by omega), List.take_of_length_le (by omega)]
  | succ d ih =>
    intro i hi k hk
    have hlt : i < xs.length := by omega
    obtain ⟨x, hx⟩ : ∃ x, x = xs.getD i zeroNum := ⟨_, rfl⟩
    have hw := hwf i hlt
    have ho := hok i hlt
    rw [← hx] at hw ho
    have hW1 := ho.1
    have hW2 := ho.2.1
    obtain ⟨n, hn⟩ : ∃ n : Nat, x.W = (n : Int) := ⟨x.W.toNat, by omega⟩
    have hWn : x.W.toNat = n := by omega
    have hn1 : n ≤ 128 := by omega
    have hbits : x.bits = bitsOfNum n x.val := by unfold Num.bits; rw [hWn]
    have hnext : allBits (xs.take (i + 1)) = allBits (xs.take i) ++ bitsOfNum n x.val := by rw [allBits_take_succ _ _ hlt, ← hx, hbits]
    have hlen2 : (allBits (xs.take (i + 1))).length = (allBits (xs.take i)).length + n := by rw [hnext, List.length_append, bitsOfNum_length]
    have hle := allBits_len_take xs (i + 1)
    have hin := ih (i + 1) (by omega)
    obtain ⟨k, rfl⟩ : ∃ m, k = (m + n + 1) + 1 := ⟨k - n - 2, by omega⟩
    have hin := hin k (by omega)
    have hpl : (allBits (xs.take i)).length + n ≤ 8 * M := by omega
    have hi8 : i ≤ 8000000 ∨ 8000000 < i := by omega
    have hib : ∀ q : Nat, q < xs.length → q ≤ (allBits xs).length := by
      intro q hq
      have h1 : ∀ q : Nat, q ≤ xs.length → q ≤ (allBits (xs.take q)).length := by
        intro q
        induction q with
        | zero => intro _; omega
        | succ q ihq =>
          intro hq
          have := ihq (by omega)
          rw [allBits_len_succ _ _ (by omega)]
          have := (hok q (by omega)).1
          omega
      exact Nat.le_trans (h1 q (by omega)) (allBits_len_take xs q)
    have hi9 : i ≤ 8000000 := by have := hib i hlt; omega
    have hbl : (bitsOf x.Hi x.Lo n).length = n := bitsOf_length _ _ _
    have hrb := ref_bits x.Hi x.Lo hw.2.1 hw.2.2 n hn1 (k + n + 1) (by omega)
    have hwi : wrap64 ((i : Int) + 1) = ((i + 1 : Nat) : Int) := w_add i hi9
    have hl2 := put_l2 (xs.map toS) M i x hw n hn1 (pack (allBits xs) M, 0) (Nat.le_trans hM (by decide)) n (Nat.le_refl _) (allBits (xs.take i)) k hpl (by
      rw [Nat.sub_self, List.drop_zero, ← hnext, ← hlen2, hwi]
      exact hin)
    have hwn : wrap64 ((n : Int) - 1) = (n : Int) - 1 := w_sub n hn1
    rw [pointsmanref02_Put.l1, map_len, if_pos (Int.ofNat_lt.2 hlt), if_pos (Int.natCast_nonneg i), rd_toS, ← hx]
    show ((pointsmanref01_Bits.f (k + n + 1) x.W x.Hi x.Lo).bind _) = _
    rw [hn, hrb]
    simp only [Option.bind_some]
    rw [hbl, hwn]
    exact hl2
theorem put_l0 (xs : List Num) (hn : xs.length ≤ 1048576) (hwf : ∀ j, j < xs.length → (xs.getD j zeroNum).wf) : ∀ (d i : Nat), i + d = xs.length → (∀ j, j < i → (xs.getD j zeroNum).ok) → ∀ k, d + xs.length * 200 + 500 ≤ k →
    pointsmanref02_Put.l0 k (xs.map toS) ((allBits (xs.take i)).length : Int) (i : Int) = some (putRes xs) := by
  intro d
  induction d with
  | zero =>
    intro i hi hok k hk
    have hi' : i = xs.length := by omega
    subst hi'
    have hall : allOk xs := fun j hj => hok j hj
    have hB : xs.all Num.okB = true := all_okB xs fun j hj => (Num.okB_iff _).2 (hok j hj)
    obtain ⟨k, rfl⟩ : ∃ m, k = m + 1 := ⟨k - 1, by omega⟩
    rw [pointsmanref02_Put.l0, map_len, if_neg (by omega), List.take_of_length_le (Nat.le_refl _)]
    unfold putRes
    rw [if_pos hB]
    have h1 := put_l1 xs (((allBits xs).length + 7) / 8)
    by_cases hbig : 524288 < (allBits xs).length
    · rw [if_pos hbig, if_pos (by omega)]
    · rw [if_neg hbig, if_neg (by omega)]
      have h2 := h1 (by omega) hwf hall (by omega) xs.length 0 (by omega) k (by omega)
      clear h1
      generalize hL : (allBits xs).length = L at *
      have e1 : wrap64 ((L : Int) + 7) = ((L + 7 : Nat) : Int) := (wrap_of_small _ (by omega) (by omega)).trans (by omega)
      have e2 : Int.tdiv ((L + 7 : Nat) : Int) 8 = (((L + 7) / 8 : Nat) : Int) := by clear e1; rw [Int.tdiv_eq_ediv_of_nonneg (by omega)]; omega
      have e3 : wrap64 (((L + 7) / 8 : Nat) : Int) = (((L + 7) / 8 : Nat) : Int) := by clear e1 e2; exact w_id _ (by omega)
      have e4 : List.replicate ((L + 7) / 8) (0 : Int) = pack [] ((L + 7) / 8) := by
        clear e1 e2 e3
        apply List.ext_getElem?
        intro q
        simp only [pack, List.getElem?_map, List.getElem?_replicate, List.getElem?_range]
        by_cases hq : q < (L + 7) / 8
        · simp [hq, packByte_nil]
        · simp [hq]
      have hm : (L + 7) / 8 ≤ 281474976710656 := by clear e1 e2 e3; omega
      rw [e1, e2, e3, if_pos (Int.natCast_nonneg _), Int.toNat_natCast, if_pos hm, e4]
      exact h2
  | succ d ih =>
    intro i hi hok k hk
    have hlt : i < xs.length := by omega
    obtain ⟨x, hx⟩ : ∃ x, x = xs.getD i zeroNum := ⟨_, rfl⟩
    have hw := hwf i hlt
    rw [← hx] at hw
    obtain ⟨k, rfl⟩ : ∃ m, k = m + 1 := ⟨k - 1, by omega⟩
    have hck := check_ref x hw k (by omega)
    rw [pointsmanref02_Put.l0, map_len, if_pos (Int.ofNat_lt.2 hlt), if_pos (Int.natCast_nonneg i), rd_toS, ← hx]
    show ((pointsmanref01_Check.f k x.W x.Hi x.Lo).bind _) = _
    rw [hck]
    simp only [Option.bind_some]
    by_cases hb : x.okB = true
    · have ho := (Num.okB_iff x).1 hb
      have hok2 : ∀ j, j < i + 1 → (xs.getD j zeroNum).ok := by
        intro j hj
        rcases Nat.lt_or_ge j i with h | h
        · exact hok j h
        · obtain rfl : j = i := by omega
          rw [← hx]; exact ho
      have hin := ih (i + 1) (by omega) hok2 k (by omega)
      have hW1 := ho.1
      have hW2 := ho.2.1
      obtain ⟨n, hn'⟩ : ∃ n : Nat, x.W = (n : Int) := ⟨x.W.toNat, by omega⟩
      have hlen2 : (allBits (xs.take (i + 1))).length = (allBits (xs.take i)).length + n := by
        rw [allBits_len_succ _ _ hlt, ← hx]
        omega
      have hbd : ∀ q, q ≤ i + 1 → (allBits (xs.take q)).length ≤ 128 * q := by
        intro q
        induction q with
        | zero => intro _; simp [allBits]
        | succ q ihq =>
          intro hq
          rw [allBits_len_succ _ _ (by omega)]
          have := ihq (by omega)
          have := (hok2 q (by omega)).2.1
          omega
      have hb1 := hbd (i + 1) (Nat.le_refl _)
      rw [hlen2] at hin hb1
      have e1 : wrap64 (((allBits (xs.take i)).length : Int) + (n : Int)) = (((allBits (xs.take i)).length + n : Nat) : Int) := (wrap_of_small _ (by omega) (by omega)).trans (by omega)
      have e2 : wrap64 ((i : Int) + 1) = ((i + 1 : Nat) : Int) := by clear e1; exact (wrap_of_small _ (by omega) (by omega)).trans (by omega)
      rw [if_pos hb]
      show pointsmanref02_Put.l0 k (xs.map toS) (wrap64 (((allBits (xs.take i)).length : Int) + x.W)) (wrap64 ((i : Int) + 1)) = _
      rw [hn', e1, e2]
      exact hin
    · rw [if_neg hb]
      unfold putRes
      rw [not_all_okB xs i hlt (by rw [← hx]; simpa using hb)]
      rfl
theorem ref_put (xs : List Num) (hn : xs.length ≤ 1048576) (hwf : ∀ j, j < xs.length → (xs.getD j zeroNum).wf) : ∃ k, pointsmanref02_Put.f k (xs.map toS) = some (putRes xs) := by
  have h := put_l0 xs hn hwf xs.length 0 (Nat.zero_add _) (fun j hj => absurd hj (Nat.not_lt_zero j)) _ (Nat.le_refl _)
  have e1 : ((allBits (xs.take 0)).length : Int) = 0 := by rw [List.take_zero, allBits_nil]; rfl
  have e2 : ((0 : Nat) : Int) = 0 := rfl
  rw [e1, e2] at h
  generalize xs.length + xs.length * 200 + 500 = k at h
  exact ⟨k, h⟩
end Go.Proofs.YtmoakgkoahjijaaGreatDoor.PPut

/- The walk of the law PacketPuts. -/
set_option linter.unusedVariables false
set_option linter.unusedSimpArgs false
namespace Go.Proofs.YtmoakgkoahjijaaGreatDoor
open Go.RowKit PkMath
open PPut (toS putRes)

theorem nums_C {w : World} {A : Option Addr} {n : Nat} {xs : List Num} (h : ReadsNums w A n xs) : YtmoakgkoahjijaaGreatDoorW.PrintWords.Kd.C PPut.k79 w A n (xs.map toS) := by
  refine ⟨by simpa using h.1, h.2.1, fun hn => ?_⟩
  obtain ⟨b, off, hA, hb, hc⟩ := h.2.2 hn
  refine ⟨_, hA, fun j p hj => ?_⟩
  have hjl : j < xs.length := by simpa using (List.getElem?_eq_some_iff.1 hj).1
  have hp : p = toS (xs.getD j zeroNum) := by
    rw [List.getElem?_map, List.getElem?_eq_getElem hjl] at hj
    rw [List.getD_eq_getElem?_getD, List.getElem?_eq_getElem hjl]
    simpa using hj.symm
  subst hp
  obtain ⟨c0, c1, c2⟩ := hc j (by rw [← h.1]; exact hjl)
  refine ⟨[.int .i64 (xs.getD j zeroNum).W, .int .u64 (xs.getD j zeroNum).Hi, .int .u64 (xs.getD j zeroNum).Lo], rfl, PPut.k79_mk w (toS (xs.getD j zeroNum)), fun i u hu => ?_⟩
  rw [Addr.add_lit]
  match i, hu with
  | 0, hu => injection hu with hu; subst hu; exact c0
  | 1, hu => injection hu with hu; subst hu; exact c1
  | 2, hu => injection hu with hu; subst hu; exact c2
theorem C_ints {w : World} {A : Option Addr} {n : Nat} {xs : List Int} {k : IntKind} (h : YtmoakgkoahjijaaGreatDoorW.PrintWords.Kd.C (YtmoakgkoahjijaaGreatDoorW.PrintWords.Kd.int k) w A n xs) : Reads w k A n xs := by
  refine ⟨h.1, h.2.1, fun hn => ?_⟩
  obtain ⟨ad, hA, hc⟩ := h.2.2 hn
  refine ⟨ad, hA, fun j hj => ?_⟩
  have hjl : j < xs.length := by rw [h.1]; exact hj
  obtain ⟨c, h1, h2, h3⟩ := hc j xs[j] (List.getElem?_eq_getElem hjl)
  have h2 : c = [.int k xs[j]] := h2
  subst h2
  have := h3 0 _ rfl
  have e1 : (YtmoakgkoahjijaaGreatDoorW.PrintWords.Kd.int k).sz = 1 := rfl
  rw [e1, Nat.mul_one, Nat.add_zero] at this
  rw [this, List.getD_eq_getElem?_getD, List.getElem?_eq_getElem hjl]
  rfl
theorem RPut_any (A : Option Addr) (n c : Nat) (xs : List Num) (w : World) (hR : ReadsNums w A n xs) (hnc : n ≤ c) (hn : n ≤ 1048576) (hwf : ∀ j, j < n → (xs.getD j zeroNum).wf) :
    Calls Tryz.prog 8 #[.slice A n c] w fun e w' => ∃ B m k, e = .returned (.tuple #[.slice B m k, .int .i64 (putRes xs).2]) ∧ Reads w' .u8 B m (putRes xs).1 ∧ Below w.heap.size w w' := by
  have hl := hR.1
  obtain ⟨k, hk⟩ := PPut.ref_put xs (by omega) (fun j hj => hwf j (by omega))
  have h := PPut.pointsmanref02_Put.calls k A c (xs.map toS) (putRes xs).1 (putRes xs).2 w (by rw [List.length_map, hl]; exact nums_C hR) (by rw [List.length_map, hl]; exact hnc) hk
  rw [List.length_map, hl] at h
  refine h.mono ?_
  rintro e w' ⟨v, rfl, hr, hb⟩
  obtain ⟨B, k', rfl, _, hC⟩ := YtmoakgkoahjijaaGreatDoorW.PrintWords.Kd.R_reads hr
  exact ⟨B, _, k', rfl, C_ints hC, hb⟩
theorem first_bad (xs : List Num) : ∀ n, (∀ j, j < n → (xs.getD j zeroNum).ok) ∨ ∃ i, i < n ∧ ¬ (xs.getD i zeroNum).ok ∧ ∀ j, j < i → (xs.getD j zeroNum).ok := by
  intro n
  induction n with
  | zero => exact .inl fun j hj => by omega
  | succ n ih =>
    rcases ih with h | ⟨i, h1, h2, h3⟩
    · by_cases hb : (xs.getD n zeroNum).ok
      · refine .inl fun j hj => ?_
        rcases Nat.lt_or_ge j n with h' | h'
        · exact h j h'
        · obtain rfl : j = n := by omega
          exact hb
      · exact .inr ⟨n, by omega, hb, h⟩
    · exact .inr ⟨i, by omega, h2, h3⟩
theorem Put_any (A : Option Addr) (n c : Nat) (xs : List Num) (w : World) (hR : ReadsNums w A n xs) (hn : n ≤ 20000) (hwf : ∀ j, j < n → (xs.getD j zeroNum).wf) :
    Calls Tryz.prog 7 #[.slice A n c] w fun e w' => ∃ B m k, e = .returned (.tuple #[.slice B m k, .int .i64 (putRes xs).2]) ∧ w'.ownsRow w.heap.size 5 1 (.slice B m k) m (nums .u8 (putRes xs).1) ∧ m ≤ 65600 ∧ Below w.heap.size w w' := by
  have hl := hR.1
  rcases first_bad xs n with h | ⟨i, h1, h2, h3⟩
  · have hall : xs.all Num.okB = true := PPut.all_okB xs fun j hj => (Num.okB_iff _).2 (h j (by omega))
    have hok : allOk xs := fun j hj => h j (by omega)
    by_cases hbig : 524288 < (allBits xs).length
    · unfold putRes
      rw [if_pos hall, if_pos hbig]
      refine (Put_big A n c xs w hR (by omega) hwf hok hbig).mono ?_
      rintro e w' ⟨rfl, hb⟩
      exact ⟨_, _, _, rfl, World.ownsRow_nil _ _ _ _, by omega, hb⟩
    · unfold putRes
      rw [if_pos hall, if_neg hbig]
      refine (Put_ok A n c xs w hR (by omega) hwf hok (by omega)).mono ?_
      rintro e w' ⟨v, rfl, ho, hb⟩
      obtain ⟨B, L, k, rfl, hL⟩ := own_form ho
      have hL := hL.out
      subst hL
      exact ⟨_, _, _, rfl, ho, by omega, hb⟩
  · unfold putRes
    rw [PPut.not_all_okB xs i (by omega) (by rw [Bool.eq_false_iff]; exact fun hc => h2 ((Num.okB_iff _).1 hc))]
    refine (Put_bad A n c xs w hR (by omega) hwf i h1 h2 h3).mono ?_
    rintro e w' ⟨rfl, hb⟩
    exact ⟨_, _, _, rfl, World.ownsRow_nil _ _ _ _, by omega, hb⟩
set_option maxRecDepth 100000 in
set_option maxHeartbeats 6400000 in
theorem puts_law (A : Option Addr) (n c : Nat) (xs : List Num) (w : World) (hR : ReadsNums w A n xs) (hnc : n ≤ c) (hm : n ≤ 140737488355328) (hwf : ∀ j, j < n → (xs.getD j zeroNum).wf) :
    Calls Tryz.prog 3 #[.slice A n c] w fun e w' => e = .returned (.bool true) ∧ Below w.heap.size w w' := by
  have HR := aside' (And.intro hR (And.intro hwf hnc))
  clear hR hwf hnc
  by_cases hbig : 20000 < n
  · have g1 : decide (20000 < (n : Int)) = true := decide_eq_true (by omega)
    go_enter Tryz.func3, Tryz.ntmps3
    go_wp2
    go_ret
    exact ⟨rfl, Below.refl _ _⟩
  · have g1 : decide (20000 < (n : Int)) = false := decide_eq_false (by omega)
    have HTW := aside' (twinN_any A n c xs w HR.out.1 (by omega))
    go_enter Tryz.func3, Tryz.ntmps3
    go_wp2_with fail
    refine Calls.mono HTW.out ?_
    rintro e w2 ⟨g, k, rfl, hg1, hg2, ht, hb2⟩
    have HT := aside' (And.intro hg2 (And.intro ht hb2))
    have HF1 := aside' (Put_any (some ⟨g, 0, none⟩) n k xs w2 ht.2.1 (by omega) HR.out.2.1)
    obtain ⟨er, her⟩ : ∃ er : Int, er = (putRes xs).2 := ⟨_, rfl⟩
    rw [← her] at HF1
    clear hg1 hg2 ht hb2 HTW
    have HER := aside' her
    clear her
    go_wp2_with fail
    refine Calls.mono HF1.out ?_
    rintro e w3 ⟨X, mx, kx, rfl, hx1, hxm, hb3⟩
    have HX := aside' (And.intro hx1 hb3)
    have HF2 := aside' (Put_any (some ⟨g, 0, none⟩) n k xs w3 (HT.out.2.1.2.1.below hb3) (by omega) HR.out.2.1)
    rw [← HER.out] at HF2
    clear hx1 hb3 HF1
    go_wp2_with fail
    refine Calls.mono HF2.out ?_
    rintro e w4 ⟨Y, my, ky, rfl, hy1, hym, hb4⟩
    have hB4 : Below w.heap.size w w4 := HT.out.2.2.trans ((HX.out.2.trans (hb4.mono HX.out.2.size)).mono HT.out.2.2.size)
    have HY := aside' (And.intro hy1 (And.intro hb4 hB4))
    have HF3 := aside' (RPut_any A n c xs w4 (HR.out.1.below hB4) HR.out.2.2 (by omega) HR.out.2.1)
    rw [← HER.out] at HF3
    clear hy1 hb4 hB4 HF2
    go_wp2_with fail
    refine Calls.mono HF3.out ?_
    rintro e w5 ⟨Z, mz, kz, rfl, hz2, hb5⟩
    have hX5 := own_keep (own_keep HX.out.1 HY.out.2.1) hb5
    have hY5 := own_keep HY.out.1 hb5
    have HS1 := aside' (same_bytes X Z mx kx mz kz _ _ w5 (own_rd' hX5) hz2)
    have HS2 := aside' (fun q => same_bytes Y Z my ky mz kz _ _ (w5.drewN q) (own_rd' (w := w5) hY5) hz2)
    rw [decide_eq_true rfl] at HS1 HS2
    have hB5 : Below w2.heap.size w2 w5 := (HX.out.2.trans (HY.out.2.1.mono HX.out.2.size)).trans (hb5.mono (HX.out.2.trans (HY.out.2.1.mono HX.out.2.size)).size)
    have HT5 := aside' (And.intro (HT.out.2.1.below HT.out.1 hB5) (HT.out.2.2.trans (hB5.mono HT.out.2.2.size)))
    have H5 := aside' (And.intro hX5 (And.intro hY5 hb5))
    have er1 : (er != er) = false := by simp
    clear hz2 hb5 hX5 hY5 hB5 HF3
    go_wp2_with fail
    refine Calls.mono HS1.out ?_
    rintro e w6 ⟨rfl, q6, rfl⟩
    go_wp2_with fail
    refine Calls.mono (HS2.out q6) ?_
    rintro e w7 ⟨rfl, q7, rfl⟩
    go_wp2_with fail
    have HLF := aside' (leftN_any g k n c A xs (w5.drewN (q6 + q7)) HT5.out.1 (HR.out.1.below (below_drewN HT5.out.2 _)))
    refine Calls.mono HLF.out ?_
    rintro e w8 ⟨rfl, hb8⟩
    have hs8 := hb8.size
    simp only [World.heap_drewN] at hs8
    have H8 := aside' (And.intro (own_keep (w := w5.drewN (q6 + q7)) H5.out.1 hb8) (And.intro (own_keep (w := w5.drewN (q6 + q7)) H5.out.2.1 hb8) ((below_drewN HT5.out.2 (q6 + q7)).trans (hb8.mono (below_drewN HT5.out.2 (q6 + q7)).size))))
    have hs23 := HX.out.2.size
    have hs34 := HY.out.2.1.size
    have hs45 := H5.out.2.2.size
    have hs2 := HT.out.2.2.size
    have HBX := aside' (own_lt HX.out.1)
    have HBY := aside' (own_lt HY.out.1)
    clear hb8 HLF HS1 HS2 HT5 H5
    have HBO := aside' (heap_alloc_new w8 (.cells (bookCells 0 (.slice none 0 0)) 61))
    have HB0 := aside' (Bs.zero w8 w.heap.size (by omega))
    go_wp2_with ((with_reducible show wpList _ _ _ _ _ _); refine wpList_store_row rfl 61 (.tmp 10) (.tmp 52) rfl w8.heap.size (bookCells 0 (.slice none 0 0)) rfl rfl 61 (bookCells 0 (.slice none 0 0)) HBO.out (by kernel_rfl) rfl (by kernel_rfl) ?_; refine wpList_seen ?_; intro V hV; have HV := aside' hV; clear hV)
    have HVB : Aside (Bs V w.heap.size w8.heap.size (.slice none 0 0) [] (fun _ _ => False) (fun _ => 0) ∧ Foot (fun _ => False) w8 V) := aside' (by rw [HV.out]; exact HB0.out)
    have HVX := aside' (own_foot H8.out.1 HVB.out.2 (fun _ _ h => h))
    have HVY := aside' (own_foot H8.out.2.1 HVB.out.2 (fun _ _ h => h))
    have HVW := aside' (H8.out.2.2.trans (HVB.out.2.below (B := w.heap.size) (fun _ h => h.elim) H8.out.2.2.size))
    have hV8 := HVB.out.2.size
    have HZ0 := aside' (show ∀ q, Zo w8.heap.size (.slice none 0 0) (fun _ _ => False) q → q = w8.heap.size from fun q hq => by
      rcases hq with h | h | ⟨_, h⟩
      · exact h
      · simp [Value.ownBlock] at h
      · exact h.elim)
    have HK1 := aside' (HVB.out.1.keep (A := X) (n := mx) (c := kx) (base2 := w2.heap.size) (by simp) hs2 HVX.out (by omega) (fun q hq hz => by have h1 := HZ0.out q hz; have h2 := (HBX.out q hq).2; omega))
    clear HV HBO HB0
    go_wp2_with fail
    refine Calls.mono HK1.out ?_
    rintro e v1 ⟨⟨u1, rfl⟩, row1, F1, ns1, hbs1, hf1, hz1⟩
    have HB1 := aside' (And.intro hbs1 (And.intro hf1 hz1))
    have HVY1 := aside' (own_foot HVY.out hf1 (fun q hq hz => by have h1 := HZ0.out q hz; have h2 := (HBY.out q hq).2; omega))
    have HW1 := aside' (HVW.out.trans (hf1.below (B := w.heap.size) (fun q hz => by have h1 := HZ0.out q hz; omega) HVW.out.size))
    have HK2 := aside' (hbs1.keep (A := Y) (n := my) (c := ky) (base2 := w3.heap.size) (by simp) (by omega) HVY1.out (by omega) (fun q hq hz => by
      have h2 := HBY.out q hq
      rcases hz1 q hz with h | h | h
      · have h1 := HZ0.out q h; omega
      · have h3 := (HBX.out q h).2; omega
      · omega))
    clear hbs1 hf1 hz1 HK1
    go_wp2_with fail
    refine Calls.mono HK2.out ?_
    rintro e v2 ⟨⟨u2, rfl⟩, row2, F2, ns2, hbs2, hf2, hz2⟩
    have HW2 := aside' (HW1.out.trans (hf2.below (B := w.heap.size) (fun q hz => (HB1.out.1.lt q hz).1) HW1.out.size))
    have HA := aside' (hbs2.apart (by simp))
    have HL2 := aside' hbs2.lt
    clear hbs2 hf2 hz2 HK2
    go_wp2_with fail
    refine Calls.mono HA.out ?_
    rintro e v3 ⟨rfl, hf3⟩
    go_wp2
    go_ret
    exact ⟨rfl, HW2.out.trans (hf3.below (B := w.heap.size) (fun q hz => (HL2.out q hz).1) HW2.out.size)⟩
end Go.Proofs.YtmoakgkoahjijaaGreatDoor
