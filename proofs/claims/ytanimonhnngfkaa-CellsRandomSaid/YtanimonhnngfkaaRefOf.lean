/-
  The document's Of of a number of so many bits is what is not cut off.
-/
import Derived.Test.YtanimonhnngfkaaK3
import Derived.Test.YtanimonhnngfkaaBitsPkg
set_option linter.unusedVariables false
set_option linter.unusedSimpArgs false
namespace Go.Proofs.Ytanimonhnngfkaa.K
open Go.RowKit Go.Proofs.YtanimonhnngfkaaW.PrintWords Go.Proofs.YtanimonhnngfkaaW.PrintMore

/-- Bit i of a number. -/
def bitAt (hi lo : Int) (i : Nat) : Bool := if i < 64 then lo / 2 ^ i % 2 == 1 else hi / 2 ^ (i - 64) % 2 == 1
def bitsOf (hi lo : Int) (n : Nat) : List Bool := (List.range n).map (bitAt hi lo)
theorem bitsOf_length (hi lo : Int) (n : Nat) : (bitsOf hi lo n).length = n := by simp [bitsOf]
theorem bitsOf_succ (hi lo : Int) (n : Nat) : bitsOf hi lo (n + 1) = bitsOf hi lo n ++ [bitAt hi lo n] := by simp [bitsOf, List.range_succ]
theorem bitsOf_get (hi lo : Int) (n i : Nat) (h : i < n) : rdOf false (bitsOf hi lo n) (i : Int) = bitAt hi lo i := by
  simp [rdOf, bitsOf, h]
theorem div_pow_range (x : Int) (i : Nat) (h0 : 0 ≤ x) (h1 : x ≤ 18446744073709551615) : 0 ≤ x / 2 ^ i ∧ x / 2 ^ i < 2 ^ 64 := by
  have hp : (0 : Int) < 2 ^ i := Int.pow_pos (by omega)
  refine ⟨Int.ediv_nonneg h0 (by omega), ?_⟩
  have h2 : x / 2 ^ i ≤ x := Int.ediv_le_self _ h0
  have h3 : (2 : Int) ^ 64 = 18446744073709551616 := rfl
  omega
theorem and_one (x : Int) (i : Nat) (hi : i ≤ 64) (h0 : 0 ≤ x) (h1 : x ≤ 18446744073709551615) : Go.bits .and .u64 (shr .u64 x (i : Int)) 1 = x / 2 ^ i % 2 := by
  have e : shr .u64 x (i : Int) = x / 2 ^ i := by
    unfold shr
    rw [Int.toNat_natCast, Nat.min_eq_left (by simpa [IntKind.bits] using hi)]
  obtain ⟨a, b⟩ := div_pow_range x i h0 h1
  rw [e]
  have := bits_mask .u64 64 (by decide) wraps_u64 1 (by decide) (x / 2 ^ i) a b
  simpa using this
theorem wrap_of_small (x : Int) (h0 : -9223372036854775808 ≤ x) (h1 : x ≤ 9223372036854775807) : wrap64 x = x := by
  unfold wrap64
  omega
theorem bits_l0 (hi lo : Int) (h1 : 0 ≤ hi ∧ hi ≤ 18446744073709551615) (h2 : 0 ≤ lo ∧ lo ≤ 18446744073709551615) (w : Nat) (hw : w ≤ 128) (d : Nat) : ∀ (i k : Nat), i + d = w → 2 * d + 2 ≤ k → pointsmanref01_Bits.l0 k (bitsOf hi lo i) (i : Int) (w : Int) hi lo = some (bitsOf hi lo w) := by
  induction d with
  | zero =>
    intro i k h hk
    obtain rfl : i = w := by omega
    obtain ⟨k, rfl⟩ : ∃ m, k = m + 1 + 1 := ⟨k - 2, by omega⟩
    rw [pointsmanref01_Bits.l0, if_neg (by omega), pointsmanref01_Bits.j1, if_neg (by simp)]
  | succ d ih =>
    intro i k h hk
    obtain ⟨k, rfl⟩ : ∃ m, k = m + 1 + 1 := ⟨k - 2, by omega⟩
    have hlen : (bitsOf hi lo i).length < 140737488355328 := by rw [bitsOf_length]; omega
    have hn : wrap64 ((i : Int) + 1) = ((i + 1 : Nat) : Int) := by rw [wrap_of_small _ (by omega) (by omega)]; omega
    have ih' := ih (i + 1) k (by omega) (by omega)
    rw [bitsOf_succ] at ih'
    rw [pointsmanref01_Bits.l0, if_pos (by omega), pointsmanref01_Bits.j1, if_pos (decide_eq_true (by omega)), hn]
    by_cases h64 : i < 64
    · rw [if_pos (by omega), if_pos (by omega), if_pos hlen, and_one lo i (by omega) h2.1 h2.2]
      have e : bitAt hi lo i = (lo / 2 ^ i % 2 == 1) := by unfold bitAt; rw [if_pos h64]
      rw [← e]
      exact ih'
    · have e64 : wrap64 ((i : Int) - 64) = ((i - 64 : Nat) : Int) := by rw [wrap_of_small _ (by omega) (by omega)]; omega
      rw [if_neg (by omega), e64, if_pos (by omega), if_pos hlen, and_one hi (i - 64) (by omega) h1.1 h1.2]
      have e : bitAt hi lo i = (hi / 2 ^ (i - 64) % 2 == 1) := by unfold bitAt; rw [if_neg h64]
      rw [← e]
      exact ih'
theorem ref_bits (hi lo : Int) (h1 : 0 ≤ hi ∧ hi ≤ 18446744073709551615) (h2 : 0 ≤ lo ∧ lo ≤ 18446744073709551615) (w : Nat) (hw : w ≤ 128) (k : Nat) (hk : 258 ≤ k) : pointsmanref01_Bits.f k (w : Int) hi lo = some (bitsOf hi lo w) := by
  unfold pointsmanref01_Bits.f
  exact bits_l0 hi lo h1 h2 w hw w 0 k (by omega) (by omega)

theorem shl_one (i : Nat) (hi : i < 64) : shl .u64 1 (i : Int) = 2 ^ i := by
  unfold shl
  rw [Int.toNat_natCast, Nat.min_eq_left (by simp [IntKind.bits]; omega), Int.one_mul]
  refine wraps_u64 _ (Int.pow_nonneg (by omega)) ?_
  have h : (2 : Nat) ^ i < 2 ^ 64 := Nat.pow_lt_pow_right (by decide) hi
  exact_mod_cast h
theorem mod_succ (x : Int) (i : Nat) (h0 : 0 ≤ x) : x % 2 ^ (i + 1) = x % 2 ^ i + (x / 2 ^ i % 2) * 2 ^ i := by
  have hp : (0 : Int) < 2 ^ i := Int.pow_pos (by omega)
  rw [Int.pow_succ]
  generalize (2 : Int) ^ i = p at *
  have h1 := Int.emod_add_mul_ediv x p
  have h2 := Int.emod_add_mul_ediv (x / p) 2
  have h3 : x / p / 2 = x / (p * 2) := Int.ediv_ediv_of_nonneg (by omega)
  have h4 := Int.emod_add_mul_ediv x (p * 2)
  rw [h3] at h2
  generalize x / (p * 2) = q at *
  generalize x / p % 2 = r at *
  generalize x / p = s at *
  subst h2
  have e1 : p * (r + 2 * q) = p * r + p * 2 * q := by rw [Int.mul_add, ← Int.mul_assoc]
  have e2 : r * p = p * r := Int.mul_comm _ _
  omega
theorem or_bit (x : Int) (i : Nat) (hi : i < 64) (h0 : 0 ≤ x) : Go.bits .or .u64 (x % 2 ^ i) (2 ^ i) = x % 2 ^ i + 2 ^ i := by
  have hp : (0 : Int) < 2 ^ i := Int.pow_pos (by omega)
  have hlt : (2 : Int) ^ i < 2 ^ 64 := by
    have h : (2 : Nat) ^ i < 2 ^ 64 := Nat.pow_lt_pow_right (by decide) hi
    exact_mod_cast h
  have ha0 : 0 ≤ x % 2 ^ i := Int.emod_nonneg _ (by omega)
  have ha1 : x % 2 ^ i < 2 ^ i := Int.emod_lt_of_pos _ hp
  generalize x % 2 ^ i = a at *
  obtain ⟨a, rfl⟩ := Int.eq_ofNat_of_zero_le ha0
  have e : (2 : Int) ^ i = ((2 ^ i : Nat) : Int) := by simp
  have ha2 : a < 2 ^ i := by rw [e] at ha1; omega
  have hi2 : 2 ^ i < 2 ^ 64 := Nat.pow_lt_pow_right (by decide) hi
  rw [e, (bits_nat .u64 64 (by decide) wraps_u64 a (2 ^ i) (by omega) hi2).2, Nat.or_comm]
  have h := Nat.two_pow_add_eq_or_of_lt ha2 1
  rw [Nat.mul_one] at h
  rw [← h]
  omega
theorem lo_step (lo : Int) (i : Nat) (h0 : 0 ≤ lo ∧ lo ≤ 18446744073709551615) (hi : i < 64) : (if bitAt 0 lo i = true then Go.bits .or .u64 (lo % 2 ^ i) (shl .u64 1 (i : Int)) else lo % 2 ^ i) = lo % 2 ^ (i + 1) := by
  rw [mod_succ lo i h0.1, shl_one i hi, or_bit lo i hi h0.1]
  have h2 : lo / 2 ^ i % 2 = 0 ∨ lo / 2 ^ i % 2 = 1 := by omega
  unfold bitAt
  rw [if_pos hi]
  rcases h2 with h | h <;> simp [h]
theorem pow64_mod (x : Int) (h0 : 0 ≤ x ∧ x ≤ 18446744073709551615) : x % 2 ^ 64 = x := by
  have h3 : (2 : Int) ^ 64 = 18446744073709551616 := rfl
  omega
/-- The two halves, as far as i bits. -/
def partLo (lo : Int) (i : Nat) : Int := if i < 64 then lo % 2 ^ i else lo
def partHi (hi : Int) (i : Nat) : Int := if i < 64 then 0 else hi % 2 ^ (i - 64)
theorem number_l0 (hi lo : Int) (h1 : 0 ≤ hi ∧ hi ≤ 18446744073709551615) (h2 : 0 ≤ lo ∧ lo ≤ 18446744073709551615) (w : Nat) (hw : w ≤ 128) (d : Nat) : ∀ (i k : Nat), i + d = w → d + 1 ≤ k →
    pointsmanref01_Number.l0 k (bitsOf hi lo w) (i : Int) (w : Int) (partHi hi i) (partLo lo i) = some ((w : Int), partHi hi w, partLo lo w) := by
  induction d with
  | zero =>
    intro i k h hk
    obtain rfl : i = w := by omega
    obtain ⟨k, rfl⟩ : ∃ m, k = m + 1 := ⟨k - 1, by omega⟩
    simp only [pointsmanref01_Number.l0]
    rw [bitsOf_length, if_neg (by omega)]
  | succ d ih =>
    intro i k h hk
    obtain ⟨k, rfl⟩ : ∃ m, k = m + 1 := ⟨k - 1, by omega⟩
    have hn : wrap64 ((i : Int) + 1) = ((i + 1 : Nat) : Int) := by rw [wrap_of_small _ (by omega) (by omega)]; omega
    have ih' := ih (i + 1) k (by omega) (by omega)
    simp only [pointsmanref01_Number.l0]
    rw [bitsOf_length, if_pos (by omega), if_pos (by omega), hn, bitsOf_get hi lo w i (by omega)]
    by_cases h64 : i < 64
    · have e1 : partHi hi (i + 1) = partHi hi i := by
        unfold partHi
        rw [if_pos h64]
        by_cases h : i + 1 < 64
        · rw [if_pos h]
        · rw [if_neg h, show i + 1 - 64 = 0 by omega]; simp
      have e2 : (if bitAt hi lo i = true then Go.bits .or .u64 (partLo lo i) (shl .u64 1 (i : Int)) else partLo lo i) = partLo lo (i + 1) := by
        have hb : bitAt hi lo i = bitAt 0 lo i := by unfold bitAt; rw [if_pos h64, if_pos h64]
        rw [hb]
        have := lo_step lo i h2 h64
        have e3 : partLo lo i = lo % 2 ^ i := by unfold partLo; rw [if_pos h64]
        have e4 : partLo lo (i + 1) = lo % 2 ^ (i + 1) := by
          unfold partLo
          by_cases h : i + 1 < 64
          · rw [if_pos h]
          · rw [if_neg h, show i + 1 = 64 by omega, pow64_mod lo h2]
        rw [e3, e4]; exact this
      rw [e1] at ih'
      rw [← e2] at ih'
      by_cases hb : bitAt hi lo i = true
      · rw [if_pos hb, if_pos (by omega)]
        rw [if_pos hb] at ih'
        exact ih'
      · rw [if_neg hb]
        rw [if_neg hb] at ih'
        exact ih'
    · have e64 : wrap64 ((i : Int) - 64) = ((i - 64 : Nat) : Int) := by rw [wrap_of_small _ (by omega) (by omega)]; omega
      have e1 : partLo lo (i + 1) = partLo lo i := by unfold partLo; rw [if_neg h64, if_neg (by omega)]
      have e2 : (if bitAt hi lo i = true then Go.bits .or .u64 (partHi hi i) (shl .u64 1 ((i - 64 : Nat) : Int)) else partHi hi i) = partHi hi (i + 1) := by
        have hb : bitAt hi lo i = bitAt 0 hi (i - 64) := by unfold bitAt; rw [if_neg h64, if_pos (by omega)]
        rw [hb]
        have := lo_step hi (i - 64) h1 (by omega)
        have e3 : partHi hi i = hi % 2 ^ (i - 64) := by unfold partHi; rw [if_neg h64]
        have e4 : partHi hi (i + 1) = hi % 2 ^ (i - 64 + 1) := by unfold partHi; rw [if_neg (by omega), show i + 1 - 64 = i - 64 + 1 by omega]
        rw [e3, e4]; exact this
      rw [e1] at ih'
      rw [← e2] at ih'
      by_cases hb : bitAt hi lo i = true
      · rw [if_pos hb, if_neg (by omega), e64, if_pos (by omega)]
        rw [if_pos hb] at ih'
        exact ih'
      · rw [if_neg hb]
        rw [if_neg hb] at ih'
        exact ih'
theorem ref_number (hi lo : Int) (h1 : 0 ≤ hi ∧ hi ≤ 18446744073709551615) (h2 : 0 ≤ lo ∧ lo ≤ 18446744073709551615) (w : Nat) (hw : w ≤ 128) (k : Nat) (hk : 258 ≤ k) : pointsmanref01_Number.f k (bitsOf hi lo w) = some ((w : Int), cutHi w hi, cutLo w lo) := by
  unfold pointsmanref01_Number.f
  rw [bitsOf_length]
  have h := number_l0 hi lo h1 h2 w hw w 0 k (by omega) (by omega)
  have e0 : partHi hi 0 = 0 := rfl
  have e1 : partLo lo 0 = 0 := by unfold partLo; simp
  rw [e0, e1] at h
  exact h
theorem ref_of (hi lo : Int) (h1 : 0 ≤ hi ∧ hi ≤ 18446744073709551615) (h2 : 0 ≤ lo ∧ lo ≤ 18446744073709551615) (w : Nat) (hw0 : 1 ≤ w) (hw : w ≤ 128) (k : Nat) (hk : 259 ≤ k) : pointsmanref01_Of.f k (w : Int) hi lo = some ((w : Int), cutHi w hi, cutLo w lo, 0) := by
  obtain ⟨k, rfl⟩ : ∃ m, k = m + 1 := ⟨k - 1, by omega⟩
  unfold pointsmanref01_Of.f
  rw [if_neg (by omega), decide_eq_false (by omega)]
  simp only [pointsmanref01_Of.j0]
  rw [if_neg (by decide), ref_bits hi lo h1 h2 w hw k (by omega)]
  simp only [Option.bind_some]
  rw [ref_number hi lo h1 h2 w hw k (by omega)]
  rfl
theorem ref_of_bad (hi lo w : Int) (h : w < 1 ∨ 128 < w) (k : Nat) (hk : 1 ≤ k) : pointsmanref01_Of.f k w hi lo = some (0, 0, 0, 1) := by
  obtain ⟨k, rfl⟩ : ∃ m, k = m + 1 := ⟨k - 1, by omega⟩
  unfold pointsmanref01_Of.f
  by_cases h1 : w < 1
  · rw [if_pos h1]; simp [pointsmanref01_Of.j0]
  · rw [if_neg h1, decide_eq_true (by omega)]; simp [pointsmanref01_Of.j0]
end Go.Proofs.Ytanimonhnngfkaa.K
