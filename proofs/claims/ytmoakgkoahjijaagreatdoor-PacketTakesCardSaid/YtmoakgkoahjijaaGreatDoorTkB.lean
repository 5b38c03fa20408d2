/-
  The document's Of of a number of so many bits is what is not cut off.
-/
import Derived.Test.YtmoakgkoahjijaaGreatDoorTkPPutx2
import Derived.Test.YtmoakgkoahjijaaGreatDoorTkA
import Derived.Test.YtmoakgkoahjijaaGreatDoorTkPPutx3
import Derived.Deep.DeepCutAuto
import Derived.BigRegion
import Derived.Test.YtmoakgkoahjijaaGreatDoorTkA1
import Derived.Deep.CutBlock
set_option linter.unusedVariables false
set_option linter.unusedSimpArgs false
namespace Go.Proofs.YtmoakgkoahjijaaGreatDoor.PPut
open Go.RowKit Go.Proofs.YtmoakgkoahjijaaGreatDoorW.PrintWords Go.Proofs.YtmoakgkoahjijaaGreatDoorW.PrintMore

/-- Bit i of a number. -/
def bitAt (hi lo : Int) (i : Nat) : Bool := if i < 64 then lo / 2 ^ i % 2 == 1 else hi / 2 ^ (i - 64) % 2 == 1
def bitsOf (hi lo : Int) (n : Nat) : List Bool := (List.range n).map (bitAt hi lo)
theorem bitsOf_length (hi lo : Int) (n : Nat) : (bitsOf hi lo n).length = n := by simp [bitsOf]
theorem bitsOf_succ (hi lo : Int) (n : Nat) : bitsOf hi lo (n + 1) = bitsOf hi lo n ++ [bitAt hi lo n] := by simp [bitsOf, List.range_succ]
theorem bitsOf_get (hi lo : Int) (n i : Nat) (h : i < n) : rdOf false (bitsOf hi lo n) (i : Int) = bitAt hi lo i := by
  simp [rdOf, bitsOf, h]
theorem div_pow_range (x : Int) (i : Nat) (h0 : 0 ≤ x) (h1 : x ≤ 18446744073709551615) : 0 ≤ x / 2 ^ i ∧ x / 2 ^ i < 2 ^ 64 := by
  have hp : (0 : Int) < 2 ^ i := Int.pow_pos (by omega)
  refine ⟨Int.ediv_nonneg h0 (by omega), ?_⟩
  have h2 : x / 2 ^ i ≤ x := Int.ediv_le_self _ h0
  have h3 : (2 : Int) ^ 64 = 18446744073709551616 := rfl
  omega
theorem and_one (x : Int) (i : Nat) (hi : i ≤ 64) (h0 : 0 ≤ x) (h1 : x ≤ 18446744073709551615) : Go.bits .and .u64 (shr .u64 x (i : Int)) 1 = x / 2 ^ i % 2 := by
  have e : shr .u64 x (i : Int) = x / 2 ^ i := by
    unfold shr
    rw [Int.toNat_natCast, Nat.min_eq_left (by simpa [IntKind.bits] using hi)]
  obtain ⟨a, b⟩ := div_pow_range x i h0 h1
  rw [e]
  have := bits_mask .u64 64 (by decide) wraps_u64 1 (by decide) (x / 2 ^ i) a b
  simpa using this
theorem wrap_of_small (x : Int) (h0 : -9223372036854775808 ≤ x) (h1 : x ≤ 9223372036854775807) : wrap64 x = x := by
  unfold wrap64
  omega
theorem bits_l0 (hi lo : Int) (h1 : 0 ≤ hi ∧ hi ≤ 18446744073709551615) (h2 : 0 ≤ lo ∧ lo ≤ 18446744073709551615) (w : Nat) (hw : w ≤ 128) (d : Nat) : ∀ (i k : Nat), i + d = w → 2 * d + 2 ≤ k → pointsmanref01_Bits.l0 k (bitsOf hi lo i) (i : Int) (w : Int) hi lo = some (bitsOf hi lo w) := by
  induction d with
  | zero =>
    intro i k h hk
    obtain rfl : i = w := by omega
    obtain ⟨k, rfl⟩ : ∃ m, k = m + 1 + 1 := ⟨k - 2, by omega⟩
    rw [pointsmanref01_Bits.l0, if_neg (by omega), pointsmanref01_Bits.j1, if_neg (by simp)]
  | succ d ih =>
    intro i k h hk
    obtain ⟨k, rfl⟩ : ∃ m, k = m + 1 + 1 := ⟨k - 2, by omega⟩
    have hlen : (bitsOf hi lo i).length < 140737488355328 := by rw [bitsOf_length]; omega
    have hn : wrap64 ((i : Int) + 1) = ((i + 1 : Nat) : Int) := by rw [wrap_of_small _ (by omega) (by omega)]; omega
    have ih' := ih (i + 1) k (by omega) (by omega)
    rw [bitsOf_succ] at ih'
    rw [pointsmanref01_Bits.l0, if_pos (by omega), pointsmanref01_Bits.j1, if_pos (decide_eq_true (by omega)), hn]
    by_cases h64 : i < 64
    · rw [if_pos (by omega), if_pos (by omega), if_pos hlen, and_one lo i (by omega) h2.1 h2.2]
      have e : bitAt hi lo i = (lo / 2 ^ i % 2 == 1) := by unfold bitAt; rw [if_pos h64]
      rw [← e]
      exact ih'
    · have e64 : wrap64 ((i : Int) - 64) = ((i - 64 : Nat) : Int) := by rw [wrap_of_small _ (by omega) (by omega)]; omega
      rw [if_neg (by omega), e64, if_pos (by omega), if_pos hlen, and_one hi (i - 64) (by omega) h1.1 h1.2]
      have e : bitAt hi lo i = (hi / 2 ^ (i - 64) % 2 == 1) := by unfold bitAt; rw [if_neg h64]
      rw [← e]
      exact ih'
theorem ref_bits (hi lo : Int) (h1 : 0 ≤ hi ∧ hi ≤ 18446744073709551615) (h2 : 0 ≤ lo ∧ lo ≤ 18446744073709551615) (w : Nat) (hw : w ≤ 128) (k : Nat) (hk : 258 ≤ k) : pointsmanref01_Bits.f k (w : Int) hi lo = some (bitsOf hi lo w) := by
  unfold pointsmanref01_Bits.f
  exact bits_l0 hi lo h1 h2 w hw w 0 k (by omega) (by omega)

theorem shl_one (i : Nat) (hi : i < 64) : shl .u64 1 (i : Int) = 2 ^ i := by
  unfold shl
  rw [Int.toNat_natCast, Nat.min_eq_left (by simp [IntKind.bits]; omega), Int.one_mul]
  refine wraps_u64 _ (Int.pow_nonneg (by omega)) ?_
  have h : (2 : Nat) ^ i < 2 ^ 64 := Nat.pow_lt_pow_right (by decide) hi
  exact_mod_cast h
theorem mod_succ (x : Int) (i : Nat) (h0 : 0 ≤ x) : x % 2 ^ (i + 1) = x % 2 ^ i + (x / 2 ^ i % 2) * 2 ^ i := by
  have hp : (0 : Int) < 2 ^ i := Int.pow_pos (by omega)
  rw [Int.pow_succ]
  generalize (2 : Int) ^ i = p at *
  have h1 := Int.emod_add_mul_ediv x p
  have h2 := Int.emod_add_mul_ediv (x / p) 2
  have h3 : x / p / 2 = x / (p * 2) := Int.ediv_ediv_of_nonneg (by omega)
  have h4 := Int.emod_add_mul_ediv x (p * 2)
  rw [h3] at h2
  generalize x / (p * 2) = q at *
  generalize x / p % 2 = r at *
  generalize x / p = s at *
  subst h2
  have e1 : p * (r + 2 * q) = p * r + p * 2 * q := by rw [Int.mul_add, ← Int.mul_assoc]
  have e2 : r * p = p * r := Int.mul_comm _ _
  omega
theorem or_bit (x : Int) (i : Nat) (hi : i < 64) (h0 : 0 ≤ x) : Go.bits .or .u64 (x % 2 ^ i) (2 ^ i) = x % 2 ^ i + 2 ^ i := by
  have hp : (0 : Int) < 2 ^ i := Int.pow_pos (by omega)
  have hlt : (2 : Int) ^ i < 2 ^ 64 := by
    have h : (2 : Nat) ^ i < 2 ^ 64 := Nat.pow_lt_pow_right (by decide) hi
    exact_mod_cast h
  have ha0 : 0 ≤ x % 2 ^ i := Int.emod_nonneg _ (by omega)
  have ha1 : x % 2 ^ i < 2 ^ i := Int.emod_lt_of_pos _ hp
  generalize x % 2 ^ i = a at *
  obtain ⟨a, rfl⟩ := Int.eq_ofNat_of_zero_le ha0
  have e : (2 : Int) ^ i = ((2 ^ i : Nat) : Int) := by simp
  have ha2 : a < 2 ^ i := by rw [e] at ha1; omega
  have hi2 : 2 ^ i < 2 ^ 64 := Nat.pow_lt_pow_right (by decide) hi
  rw [e, (bits_nat .u64 64 (by decide) wraps_u64 a (2 ^ i) (by omega) hi2).2, Nat.or_comm]
  have h := Nat.two_pow_add_eq_or_of_lt ha2 1
  rw [Nat.mul_one] at h
  rw [← h]
  omega
theorem lo_step (lo : Int) (i : Nat) (h0 : 0 ≤ lo ∧ lo ≤ 18446744073709551615) (hi : i < 64) : (if bitAt 0 lo i = true then Go.bits .or .u64 (lo % 2 ^ i) (shl .u64 1 (i : Int)) else lo % 2 ^ i) = lo % 2 ^ (i + 1) := by
  rw [mod_succ lo i h0.1, shl_one i hi, or_bit lo i hi h0.1]
  have h2 : lo / 2 ^ i % 2 = 0 ∨ lo / 2 ^ i % 2 = 1 := by omega
  unfold bitAt
  rw [if_pos hi]
  rcases h2 with h | h <;> simp [h]
theorem pow64_mod (x : Int) (h0 : 0 ≤ x ∧ x ≤ 18446744073709551615) : x % 2 ^ 64 = x := by
  have h3 : (2 : Int) ^ 64 = 18446744073709551616 := rfl
  omega
/-- The two halves, as far as i bits. -/
def partLo (lo : Int) (i : Nat) : Int := if i < 64 then lo % 2 ^ i else lo
def partHi (hi : Int) (i : Nat) : Int := if i < 64 then 0 else hi % 2 ^ (i - 64)
theorem number_l0 (hi lo : Int) (h1 : 0 ≤ hi ∧ hi ≤ 18446744073709551615) (h2 : 0 ≤ lo ∧ lo ≤ 18446744073709551615) (w : Nat) (hw : w ≤ 128) (d : Nat) : ∀ (i k : Nat), i + d = w → d + 1 ≤ k →
    pointsmanref01_Number.l0 k (bitsOf hi lo w) (i : Int) (w : Int) (partHi hi i) (partLo lo i) = some ((w : Int), partHi hi w, partLo lo w) := by
  induction d with
  | zero =>
    intro i k h hk
    obtain rfl : i = w := by omega
    obtain ⟨k, rfl⟩ : ∃ m, k = m + 1 := ⟨k - 1, by omega⟩
    simp only [pointsmanref01_Number.l0]
    rw [bitsOf_length, if_neg (by omega)]
  | succ d ih =>
    intro i k h hk
    obtain ⟨k, rfl⟩ : ∃ m, k = m + 1 := ⟨k - 1, by omega⟩
    have hn : wrap64 ((i : Int) + 1) = ((i + 1 : Nat) : Int) := by rw [wrap_of_small _ (by omega) (by omega)]; omega
    have ih' := ih (i + 1) k (by omega) (by omega)
    simp only [pointsmanref01_Number.l0]
    rw [bitsOf_length, if_pos (by omega), if_pos (by omega), hn, bitsOf_get hi lo w i (by omega)]
    by_cases h64 : i < 64
    · have e1 : partHi hi (i + 1) = partHi hi i := by
        unfold partHi
        rw [if_pos h64]
        by_cases h : i + 1 < 64
        · rw [if_pos h]
        · rw [if_neg h, show i + 1 - 64 = 0 by omega]; simp
      have e2 : (if bitAt hi lo i = true then Go.bits .or .u64 (partLo lo i) (shl .u64 1 (i : Int)) else partLo lo i) = partLo lo (i + 1) := by
        have hb : bitAt hi lo i = bitAt 0 lo i := by unfold bitAt; rw [if_pos h64, if_pos h64]
        rw [hb]
        have := lo_step lo i h2 h64
        have e3 : partLo lo i = lo % 2 ^ i := by unfold partLo; rw [if_pos h64]
        have e4 : partLo lo (i + 1) = lo % 2 ^ (i + 1) := by
          unfold partLo
          by_cases h : i + 1 < 64
          · rw [if_pos h]
          · rw [if_neg h, show i + 1 = 64 by omega, pow64_mod lo h2]
        rw [e3, e4]; exact this
      rw [e1] at ih'
      rw [← e2] at ih'
      by_cases hb : bitAt hi lo i = true
      · rw [if_pos hb, if_pos (by omega)]
        rw [if_pos hb] at ih'
        exact ih'
      · rw [if_neg hb]
        rw [if_neg hb] at ih'
        exact ih'
    · have e64 : wrap64 ((i : Int) - 64) = ((i - 64 : Nat) : Int) := by rw [wrap_of_small _ (by omega) (by omega)]; omega
      have e1 : partLo lo (i + 1) = partLo lo i := by unfold partLo; rw [if_neg h64, if_neg (by omega)]
      have e2 : (if bitAt hi lo i = true then Go.bits .or .u64 (partHi hi i) (shl .u64 1 ((i - 64 : Nat) : Int)) else partHi hi i) = partHi hi (i + 1) := by
        have hb : bitAt hi lo i = bitAt 0 hi (i - 64) := by unfold bitAt; rw [if_neg h64, if_pos (by omega)]
        rw [hb]
        have := lo_step hi (i - 64) h1 (by omega)
        have e3 : partHi hi i = hi % 2 ^ (i - 64) := by unfold partHi; rw [if_neg h64]
        have e4 : partHi hi (i + 1) = hi % 2 ^ (i - 64 + 1) := by unfold partHi; rw [if_neg (by omega), show i + 1 - 64 = i - 64 + 1 by omega]
        rw [e3, e4]; exact this
      rw [e1] at ih'
      rw [← e2] at ih'
      by_cases hb : bitAt hi lo i = true
      · rw [if_pos hb, if_neg (by omega), e64, if_pos (by omega)]
        rw [if_pos hb] at ih'
        exact ih'
      · rw [if_neg hb]
        rw [if_neg hb] at ih'
        exact ih'
theorem ref_number (hi lo : Int) (h1 : 0 ≤ hi ∧ hi ≤ 18446744073709551615) (h2 : 0 ≤ lo ∧ lo ≤ 18446744073709551615) (w : Nat) (hw : w ≤ 128) (k : Nat) (hk : 258 ≤ k) : pointsmanref01_Number.f k (bitsOf hi lo w) = some ((w : Int), cutHi w hi, cutLo w lo) := by
  unfold pointsmanref01_Number.f
  rw [bitsOf_length]
  have h := number_l0 hi lo h1 h2 w hw w 0 k (by omega) (by omega)
  have e0 : partHi hi 0 = 0 := rfl
  have e1 : partLo lo 0 = 0 := by unfold partLo; simp
  rw [e0, e1] at h
  exact h
theorem ref_of (hi lo : Int) (h1 : 0 ≤ hi ∧ hi ≤ 18446744073709551615) (h2 : 0 ≤ lo ∧ lo ≤ 18446744073709551615) (w : Nat) (hw0 : 1 ≤ w) (hw : w ≤ 128) (k : Nat) (hk : 259 ≤ k) : pointsmanref01_Of.f k (w : Int) hi lo = some ((w : Int), cutHi w hi, cutLo w lo, 0) := by
  obtain ⟨k, rfl⟩ : ∃ m, k = m + 1 := ⟨k - 1, by omega⟩
  unfold pointsmanref01_Of.f
  rw [if_neg (by omega), decide_eq_false (by omega)]
  simp only [pointsmanref01_Of.j0]
  rw [if_neg (by decide), ref_bits hi lo h1 h2 w hw k (by omega)]
  simp only [Option.bind_some]
  rw [ref_number hi lo h1 h2 w hw k (by omega)]
  rfl
theorem ref_of_bad (hi lo w : Int) (h : w < 1 ∨ 128 < w) (k : Nat) (hk : 1 ≤ k) : pointsmanref01_Of.f k w hi lo = some (0, 0, 0, 1) := by
  obtain ⟨k, rfl⟩ : ∃ m, k = m + 1 := ⟨k - 1, by omega⟩
  unfold pointsmanref01_Of.f
  by_cases h1 : w < 1
  · rw [if_pos h1]; simp [pointsmanref01_Of.j0]
  · rw [if_neg h1, decide_eq_true (by omega)]; simp [pointsmanref01_Of.j0]
end Go.Proofs.YtmoakgkoahjijaaGreatDoor.PPut

/- The document's Put over numbers alone: the bits one behind the other, packed; or refused. -/
set_option linter.unusedVariables false
set_option linter.unusedSimpArgs false
namespace Go.Proofs.YtmoakgkoahjijaaGreatDoor.PPut
open Go.RowKit Go.Proofs.YtmoakgkoahjijaaGreatDoorW.PrintWords Go.Proofs.YtmoakgkoahjijaaGreatDoorW.PrintLast Go.Proofs.YtmoakgkoahjijaaGreatDoorW.PrintMore PkMath

def toS (x : Num) : S79 := ⟨x.W, x.Hi, x.Lo⟩
theorem rd_toS (xs : List Num) (i : Nat) : rd_T79 (xs.map toS) (i : Int) = toS (xs.getD i zeroNum) := by
  simp only [rd_T79, Int.toNat_natCast, List.getD_eq_getElem?_getD, List.getElem?_map]
  cases xs[i]? <;> rfl
theorem check_ref (x : Num) (hw : x.wf) (k : Nat) (hk : 300 ≤ k) : pointsmanref01_Check.f k x.W x.Hi x.Lo = some x.okB := by
  unfold pointsmanref01_Check.f
  by_cases h : 1 ≤ x.W ∧ x.W ≤ 128
  · obtain ⟨n, hn⟩ := Int.eq_ofNat_of_zero_le (show 0 ≤ x.W by omega)
    have h3 := ref_of x.Hi x.Lo hw.2.1 hw.2.2 n (by omega) (by omega) k (by omega)
    rw [hn, h3]
    have e : x.W.toNat = n := by omega
    simp only [Option.bind_some, if_true, beq_self_eq_true, Bool.true_and]
    congr 1
    unfold Num.okB
    rw [e]
    by_cases h1 : cutHi n x.Hi = x.Hi <;> by_cases h2 : cutLo n x.Lo = x.Lo <;> simp [h1, h2, h]
  · have h3 := ref_of_bad x.Hi x.Lo x.W (by omega) k (by omega)
    rw [h3]
    simp only [Option.bind_some]
    rw [if_neg (by decide)]
    congr 1
    unfold Num.okB
    rw [decide_eq_false (by omega)]
/-- A number's bits, the lowest first and the highest first. -/
theorem bitAt_test (x : Num) (hw : x.wf) (i : Nat) (hi : i < 128) : bitAt x.Hi x.Lo i = x.val.testBit i := by
  obtain ⟨h, hh⟩ := Int.eq_ofNat_of_zero_le hw.2.1.1
  obtain ⟨l, hl⟩ := Int.eq_ofNat_of_zero_le hw.2.2.1
  have hlb : l < 2 ^ 64 := by have := hw.2.2.2; rw [hl] at this; have e : (2 : Nat) ^ 64 = 18446744073709551616 := by decide
                              omega
  unfold bitAt Num.val
  rw [hh, hl, Int.toNat_natCast, Int.toNat_natCast]
  have e64 : h * 18446744073709551616 + l = 2 ^ 64 * h + l := by rw [Nat.mul_comm]
  rw [e64, Nat.testBit_two_pow_mul_add _ hlb]
  have key : ∀ (v j : Nat), ((v : Int) / 2 ^ j % 2 == 1) = v.testBit j := by
    intro v j
    have e1 : ((v : Int) / 2 ^ j % 2) = ((v / 2 ^ j % 2 : Nat) : Int) := by push_cast; rfl
    rw [e1, Nat.testBit_eq_decide_div_mod_eq]
    by_cases h : v / 2 ^ j % 2 = 1
    · rw [h]; rfl
    · have h0 : v / 2 ^ j % 2 = 0 := by omega
      rw [h0]; rfl
  by_cases h64 : i < 64
  · rw [if_pos h64, if_pos h64, key]
  · rw [if_neg h64, if_neg h64, key]
theorem shl8 (r : Nat) (hr : r < 8) : shl .u8 1 ((7 - r : Nat) : Int) = ((2 ^ (7 - r) : Nat) : Int) := by
  have : r = 0 ∨ r = 1 ∨ r = 2 ∨ r = 3 ∨ r = 4 ∨ r = 5 ∨ r = 6 ∨ r = 7 := by omega
  rcases this with rfl | rfl | rfl | rfl | rfl | rfl | rfl | rfl <;> decide
theorem or8 (q r : Nat) (hq : q < 256) (hr : r < 8) : Go.bits .or .u8 (q : Int) (shl .u8 1 ((7 - r : Nat) : Int)) = ((q ||| 2 ^ (7 - r) : Nat) : Int) := by
  rw [shl8 r hr]
  exact or_u8 q (2 ^ (7 - r)) hq (Nat.lt_of_le_of_lt (Nat.pow_le_pow_right (by decide) (show 7 - r ≤ 7 by omega)) (by decide))
end Go.Proofs.YtmoakgkoahjijaaGreatDoor.PPut

/- The document's Take: the bits that are taken. -/
set_option linter.unusedVariables false
set_option linter.unusedSimpArgs false
set_option maxRecDepth 100000
namespace Go.Proofs.YtmoakgkoahjijaaGreatDoor
open Go.RowKit PkMath

def bools (l : List Bool) : List Value := l.map Value.bool
/-- Bit m of bytes. -/
def bitv (zs : List Int) (m : Nat) : Bool := (zs.getD (m / 8) 0).toNat.testBit (7 - m % 8)
/-- The list of bits while it is filled from behind: i of them are there. -/
def rb (zs : List Int) (a wd i : Nat) : List Bool := (List.range wd).map fun j => decide (wd - 1 - j < i) && bitv zs (a + (wd - 1 - j))
theorem rb_length (zs : List Int) (a wd i : Nat) : (rb zs a wd i).length = wd := by simp [rb]
theorem rb_zero (zs : List Int) (a wd : Nat) : rb zs a wd 0 = List.replicate wd false := by
  apply List.ext_getElem?
  intro q
  simp only [rb, List.getElem?_map, List.getElem?_replicate, List.getElem?_range]
  by_cases hq : q < wd <;> simp [hq]
theorem rb_succ (zs : List Int) (a wd i : Nat) (h : i < wd) : (rb zs a wd i).set (wd - 1 - i) (bitv zs (a + i)) = rb zs a wd (i + 1) := by
  apply List.ext_getElem?
  intro q
  rw [List.getElem?_set]
  simp only [rb, List.length_map, List.length_range, List.getElem?_map, List.getElem?_range]
  by_cases hq : q < wd
  · by_cases he : wd - 1 - i = q
    · have e1 : wd - 1 - q = i := by omega
      have e2 : wd - 1 - i < wd := by omega
      simp [he, hq, e1]
    · have e1 : (wd - 1 - q < i + 1) ↔ (wd - 1 - q < i) := by omega
      simp [he, hq, e1]
  · have : wd - 1 - i ≠ q := by omega
    simp [hq, this]
theorem rb_all (zs : List Int) (a wd : Nat) (h : a + wd ≤ 8 * zs.length) (q : Nat) (hq : q < wd) : (rb zs a wd wd)[q]? = some ((numOf (win (bitsL zs) a wd)).testBit q) := by
  have hlen : (bitsL zs).length = 8 * zs.length := bitsL_length zs
  have hw : (win (bitsL zs) a wd).length = wd := win_length _ _ _ (by omega)
  have hb := bits_numOf (win (bitsL zs) a wd)
  rw [hw] at hb
  have h1 : (win (bitsL zs) a wd).getD (wd - 1 - q) false = (numOf (win (bitsL zs) a wd)).testBit q := by
    rw [← hb, numOf_bits_lt _ _ (by have := numOf_lt (win (bitsL zs) a wd); rwa [hw] at this), bitsOfNum_getD _ _ _ (by omega), show wd - 1 - (wd - 1 - q) = q by omega]
  rw [← h1, win_getD _ _ _ _ (by omega), bitsL_getD, if_pos (by omega)]
  simp only [rb, List.getElem?_map, List.getElem?_range hq, Option.map_some]
  have e1 : wd - 1 - q < wd := by omega
  simp [e1, bitv]
end Go.Proofs.YtmoakgkoahjijaaGreatDoor

/- The document's Take: the walk. -/
set_option linter.unusedVariables false
set_option linter.unusedSimpArgs false
set_option maxRecDepth 100000
namespace Go.Proofs.YtmoakgkoahjijaaGreatDoor
open Go.RowKit PkMath

theorem makeBools (m : Nat) (h : m ≤ 1048576) : ∀ W : World, (Instr.makeSlice 104 (.int .i64 (m : Int)) (.int .i64 (m : Int))).run Tryz.prog W = .ok (.slice (some ⟨W.heap.size, 0, none⟩) m m) (W.alloc (.cells (madeCells #[.bool false] m) 4)) := by
  intro W
  obtain ⟨i, hi, hzz⟩ := Option.map_eq_some_iff.1 PPut.info4
  simp only [Prod.mk.injEq] at hzz
  obtain ⟨hz, hs, hb⟩ := hzz
  have := run_make (P := Tryz.prog) W 104 4 i _ Tryz.underlying104 hi hz .i64 .i64 m m (by omega) (by omega) (by rw [hb]; omega) (by omega)
  rw [hs] at this
  simpa [Value.cells] using this
theorem made_bools (m : Nat) : (madeCells #[.bool false] m).toList = bools (List.replicate m false) := by
  apply List.ext_getElem?
  intro q
  simp [madeCells, bools]
  by_cases hq : q < m <;> simp [hq, Nat.mod_one]
theorem own_bools (W : World) (base m : Nat) (hb : base ≤ W.heap.size) (hm : m ≤ 1048576) : (W.alloc (.cells (madeCells #[.bool false] m) 4)).ownsRow base 4 1 (.slice (some ⟨W.heap.size, 0, none⟩) m m) m (bools (List.replicate m false)) :=
  ⟨by simp [bools], .inr ⟨W.heap.size, m, _, rfl, hb, heap_alloc_new W _, Nat.le_refl _, by simp [maxLen]; omega, by simp [size_madeCells], by rw [made_bools, List.take_of_length_le (by simp [bools])]⟩⟩
end Go.Proofs.YtmoakgkoahjijaaGreatDoor

/- The bits that are taken, as the document's Number reads them. -/
set_option linter.unusedVariables false
set_option linter.unusedSimpArgs false
set_option maxRecDepth 100000
namespace Go.Proofs.YtmoakgkoahjijaaGreatDoor
open Go.RowKit PkMath

theorem rb_bits (zs : List Int) (a wd : Nat) (hw : wd ≤ 128) (h : a + wd ≤ 8 * zs.length) : rb zs a wd wd = PPut.bitsOf (hiOf (numOf (win (bitsL zs) a wd))) (loOf (numOf (win (bitsL zs) a wd))) wd := by
  have hlen : (bitsL zs).length = 8 * zs.length := bitsL_length zs
  have hwl : (win (bitsL zs) a wd).length = wd := win_length _ _ _ (by omega)
  have hlt : numOf (win (bitsL zs) a wd) < 2 ^ wd := by have := numOf_lt (win (bitsL zs) a wd); rwa [hwl] at this
  have hlt2 : numOf (win (bitsL zs) a wd) < 2 ^ 128 := Nat.lt_of_lt_of_le hlt (Nat.pow_le_pow_right (by decide) hw)
  apply List.ext_getElem?
  intro q
  by_cases hq : q < wd
  · rw [rb_all zs a wd h q hq]
    have hx := PPut.bitAt_test (mkNum wd (numOf (win (bitsL zs) a wd))) (mkNum_wf _ _ hw hlt) q (by omega)
    rw [mkNum_val _ _ hlt2] at hx
    rw [← hx, PPut.bitsOf, List.getElem?_map, List.getElem?_range hq]
    rfl
  · rw [List.getElem?_eq_none (by rw [rb_length]; omega), List.getElem?_eq_none (by rw [PPut.bitsOf_length]; omega)]
theorem ref_taken (zs : List Int) (a wd : Nat) (hw : wd ≤ 128) (h : a + wd ≤ 8 * zs.length) : PPut.pointsmanref01_Number.f 300 (rb zs a wd wd) = some ((wd : Int), hiOf (numOf (win (bitsL zs) a wd)), loOf (numOf (win (bitsL zs) a wd))) := by
  have hlen : (bitsL zs).length = 8 * zs.length := bitsL_length zs
  have hwl : (win (bitsL zs) a wd).length = wd := win_length _ _ _ (by omega)
  have hlt : numOf (win (bitsL zs) a wd) < 2 ^ wd := by have := numOf_lt (win (bitsL zs) a wd); rwa [hwl] at this
  have hc := cut_same (numOf (win (bitsL zs) a wd)) wd hlt hw
  rw [rb_bits zs a wd hw h, PPut.ref_number _ _ hc.2.1 hc.2.2 wd hw 300 (by omega), hc.1.1, hc.1.2]
end Go.Proofs.YtmoakgkoahjijaaGreatDoor

/- The document's Take: the walk, to its end. -/
set_option linter.unusedVariables false
set_option linter.unusedSimpArgs false
set_option maxRecDepth 100000
namespace Go.Proofs.YtmoakgkoahjijaaGreatDoor
open Go.RowKit PkMath

theorem bools_put {w : World} {base n g c : Nat} {xs : List Bool} (h : w.ownsRow base 4 1 (.slice (some ⟨g, 0, none⟩) n c) n (bools xs)) (j : Nat) (x : Bool) : (w.setCell ⟨g, j, none⟩ (.bool x)).ownsRow base 4 1 (.slice (some ⟨g, 0, none⟩) n c) n (bools (xs.set j x)) := by
  have := (h.stored j (.bool x)).1
  rwa [bools, List.map_set]
theorem bools_C {w : World} {base n c g : Nat} {xs : List Bool} (h : w.ownsRow base 4 1 (.slice (some ⟨g, 0, none⟩) n c) n (bools xs)) (hn : n ≤ 9223372036854775807) : YtmoakgkoahjijaaGreatDoorW.PrintWords.Kd.C YtmoakgkoahjijaaGreatDoorW.PrintWords.Kd.bool w (some ⟨g, 0, none⟩) n xs := by
  have hl : xs.length = n := by have := h.1; simpa [bools] using this
  refine ⟨hl, hn, fun _ => ⟨_, rfl, fun j p hj => ⟨[.bool p], rfl, rfl, fun i u hu => ?_⟩⟩⟩
  have hc := h.cells (g := g) rfl j (.bool p) (by simp [bools, hj])
  match i, hu with
  | 0, hu =>
    injection hu with hu
    subst hu
    have e1 : (YtmoakgkoahjijaaGreatDoorW.PrintWords.Kd.bool).sz = 1 := rfl
    rw [e1, Nat.mul_one, Nat.add_zero]
    exact hc
set_option maxHeartbeats 3200000 in
theorem RTake_ok {base top : Nat} {w : World} {g : Nat} {zs : List Int} {at_ : Nat} (hz : ∀ j, 0 ≤ zs.getD j 0 ∧ zs.getD j 0 ≤ 255) (h : RCurAt base top w g zs at_) (wd : Nat) (h1 : 1 ≤ wd) (h2 : wd ≤ 128) (h3 : at_ + wd ≤ 8 * zs.length) :
    Calls Tryz.prog 18 #[.pointer (some ⟨g, 0, none⟩), .int .i64 (wd : Int)] w fun e w' => e = .returned (.tuple #[bitsV wd (hiOf (numOf (win (bitsL zs) at_ wd))) (loOf (numOf (win (bitsL zs) at_ wd))), .int .i64 0]) ∧ RCurAt base top w' g zs (at_ + wd) ∧ Foot (fun k => k = g) w w' := by
  have hB := (Below.refl w.heap.size w).alloc (Nat.le_refl _) (.cells #[.int .i64 0, .int .u64 0, .int .u64 0] 79 (0,0))
  have HC := aside' (h.below hB)
  have HL := aside' (RLeft_any (h.below hB))
  have hd1 : decide ((wd : Int) < 1) = false := decide_eq_false (by omega)
  have hd2 : decide (128 < (wd : Int)) = false := decide_eq_false (by omega)
  have hd3 : decide (8 * (zs.length : Int) - (at_ : Int) < (wd : Int)) = false := decide_eq_false (by omega)
  have hmk := makeBools wd (by omega)
  have HBX := aside' (heap_alloc_new w (.cells #[.int .i64 0, .int .u64 0, .int .u64 0] 79 (0,0)))
  have HZ := aside' (And.intro hz (And.intro h hB))
  have hzl := h.2.1
  clear h hz hB
  go_enter Tryz.func18, Tryz.ntmps18
  go_wp2_with fail
  refine Calls.mono HL.out ?_
  rintro e w' ⟨rfl, q, rfl⟩
  go_wp2
  have HW : Aside (RCurAt base top (((w.alloc (.cells #[.int .i64 0, .int .u64 0, .int .u64 0] 79)).drewN q).alloc (.cells (madeCells #[.bool false] wd) 4)) g zs at_ ∧ Below w.heap.size w (((w.alloc (.cells #[.int .i64 0, .int .u64 0, .int .u64 0] 79)).drewN q).alloc (.cells (madeCells #[.bool false] wd) 4)) ∧ (((w.alloc (.cells #[.int .i64 0, .int .u64 0, .int .u64 0] 79)).drewN q).alloc (.cells (madeCells #[.bool false] wd) 4)).heap[w.heap.size]? = some (.cells #[.int .i64 0, .int .u64 0, .int .u64 0] 79 (0,0)) ∧ (((w.alloc (.cells #[.int .i64 0, .int .u64 0, .int .u64 0] 79)).drewN q).alloc (.cells (madeCells #[.bool false] wd) 4)).ownsRow w.heap.size 4 1 (.slice (some ⟨w.heap.size + 1, 0, none⟩) wd wd) wd (bools (rb zs at_ wd 0))) := by
    have ha : Below ((w.alloc (.cells #[.int .i64 0, .int .u64 0, .int .u64 0] 79)).drewN q).heap.size ((w.alloc (.cells #[.int .i64 0, .int .u64 0, .int .u64 0] 79)).drewN q) (((w.alloc (.cells #[.int .i64 0, .int .u64 0, .int .u64 0] 79)).drewN q).alloc (.cells (madeCells #[.bool false] wd) 4)) := (Below.refl _ _).alloc (Nat.le_refl _) _
    have hs : ((w.alloc (.cells #[.int .i64 0, .int .u64 0, .int .u64 0] 79)).drewN q).heap.size = w.heap.size + 1 := by simp
    have ho := own_bools ((w.alloc (.cells #[.int .i64 0, .int .u64 0, .int .u64 0] 79)).drewN q) w.heap.size wd (by omega) (by omega)
    rw [hs] at ho
    refine ⟨RCurAt.below (w := (w.alloc (.cells #[.int .i64 0, .int .u64 0, .int .u64 0] 79)).drewN q) HC.out ha, (below_drewN HZ.out.2.2 q).trans (ha.mono (by omega)), (ha.block w.heap.size (by omega)).trans HBX.out, ?_⟩
    rw [rb_zero]
    exact ho
  clear HL HC HBX hmk
  generalize ((w.alloc (.cells #[.int .i64 0, .int .u64 0, .int .u64 0] 79)).drewN q).alloc (.cells (madeCells #[.bool false] wd) 4) = W1 at *
  go_loopw [7] (fun i wr => ∃ k : Nat, k ≤ wd ∧ i = .int .i64 k ∧ Aside (RCurAt base top wr g zs at_ ∧ Below w.heap.size w wr ∧ wr.heap[w.heap.size]? = some (.cells #[.int .i64 0, .int .u64 0, .int .u64 0] 79 (0,0)) ∧ wr.ownsRow w.heap.size 4 1 (.slice (some ⟨w.heap.size + 1, 0, none⟩) wd wd) wd (bools (rb zs at_ wd k)))) (fun i _ => wd - (intOf i).toNat)
  case atStart => exact ⟨0, Nat.zero_le _, rfl, HW.out⟩
  case round =>
    obtain ⟨k, hk, rfl, HI⟩ := hrel
    obtain ⟨hcur, hbel, hbox, hown⟩ := HI.out
    obtain ⟨_, _, _, A, c, hbc, hrow, hAne⟩ := hcur
    have hrd := own_rd' hrow
    have c0 : wr.cell? ⟨g, 0, none⟩ = some (.slice A zs.length c) := cellOf hbc 0
    have c1 : wr.cell? ⟨g, 1, none⟩ = some (.int .i64 at_) := cellOf hbc 1
    have d0 : wr.drew.cell? ⟨g, 0, none⟩ = some (.slice A zs.length c) := c0
    have d1 : wr.drew.cell? ⟨g, 1, none⟩ = some (.int .i64 at_) := c1
    have fg1 := frozenOf hbc 1
    by_cases hlt : k < wd
    · have g3 : decide ((k : Int) < (wd : Int)) = true := decide_eq_true (by omega)
      have HBIT := aside' (show ∀ V : World, V = wr ∨ V = wr.drew → Calls Tryz.prog 138 #[.slice A zs.length c, .int .i64 ((at_ : Int) + (k : Int))] V fun e w' => e = .returned (.bool (bitv zs (at_ + k))) ∧ V = w' from fun V hV => by
        have h := bit_any A zs.length c zs V (by rcases hV with rfl | rfl; exact hrd; exact hrd) HZ.out.1 (at_ + k) (by omega) hzl
        rwa [Int.natCast_add] at h)
      obtain ⟨m, hm⟩ : ∃ m, m = wd - 1 - k := ⟨_, rfl⟩
      have hmi : (wd : Int) - 1 - (k : Int) = (m : Int) := by omega
      have m0 : (0 : Int) ≤ (m : Int) := by omega
      have m1 : (m : Int) < (wd : Int) := by omega
      have hml : m < wd := by omega
      have dl : wr.drew.cell? ⟨w.heap.size + 1, m, none⟩ = some (.bool ((rb zs at_ wd k).getD m false)) := by
        have := hown.cells (g := w.heap.size + 1) rfl m (.bool ((rb zs at_ wd k).getD m false)) (by
          simp only [bools, List.getElem?_map, List.getD_eq_getElem?_getD]
          rw [List.getElem?_eq_getElem (by rw [rb_length]; exact hml)]
          rfl)
        rwa [add_plain] at this
      have fl : wr.drew.frozen? ⟨w.heap.size + 1, m, none⟩ = false := hown.frozenAt m
      have hb1 := hbel.setCell (p := ⟨w.heap.size + 1, m, none⟩) (Nat.le_succ _) (.bool (bitv zs (at_ + k)))
      have HNX := aside' (And.intro (HZ.out.2.1.below hb1) (And.intro hb1 (And.intro ((Below.heap_setCell wr ⟨w.heap.size + 1, m, none⟩ (.bool (bitv zs (at_ + k))) w.heap.size (by show w.heap.size ≠ w.heap.size + 1; omega)).trans hbox) (by have h := bools_put hown m (bitv zs (at_ + k)); rw [hm, rb_succ zs at_ wd k hlt, ← hm] at h; exact h))))
      have hat : (at_ : Int) + (k : Int) ≤ 9223372036854775807 := by omega
      have hat0 : (0 : Int) ≤ (at_ : Int) + (k : Int) := by omega
      generalize (rb zs at_ wd k).getD m false = b0 at *
      generalize bitv zs (at_ + k) = b1 at *
      clear hbc hrow hrd hown hbel hbox HI hm hb1
      go_wp2_with fail
      refine region_float (fun U => U.cell? ⟨g, 0, none⟩ = some (.slice A zs.length c) ∧ U.cell? ⟨g, 1, none⟩ = some (.int .i64 at_)) 17 [.float 0, .float 1, .float 2, .float 3, .float 4, .float 5, .float 6, .float 7, .float 8, .float 9, .float 10, .float 11, .float 12, .float 13, .float 14, .one 15, .float 16] (by kernel_rfl) (by kernel_rfl) ⟨d0, d1⟩ ?_
      refine Pl.wp_float rfl rfl (.slice (some ⟨w.heap.size + 1, 0, none⟩) wd wd) (fun U hU => by (have u0 := hU.1; have u1 := hU.2; go_simp)) (fun _ _ _ h => h) ?_
      (try go_simp)
      refine Pl.wp_float rfl rfl (.int .i64 wd) (fun U hU => by (have u0 := hU.1; have u1 := hU.2; go_simp)) (fun _ _ _ h => h) ?_
      (try go_simp)
      refine Pl.wp_float rfl rfl (.int .i64 ((wd : Int) - 1)) (fun U hU => by (have u0 := hU.1; have u1 := hU.2; go_simp; rw [IntKind.wrap_i64]; omega)) (fun _ _ _ h => h) ?_
      (try go_simp)
      refine Pl.wp_float rfl rfl (.int .i64 k) (fun U hU => by (have u0 := hU.1; have u1 := hU.2; go_simp)) (fun _ _ _ h => h) ?_
      (try go_simp)
      refine Pl.wp_float rfl rfl (.int .i64 m) (fun U hU => by (have u0 := hU.1; have u1 := hU.2; go_simp; rw [IntKind.wrap_i64]; omega)) (fun _ _ _ h => h) ?_
      (try go_simp)
      refine Pl.wp_float rfl rfl (.pointer (some ⟨g, 0, none⟩)) (fun U hU => by (have u0 := hU.1; have u1 := hU.2; go_simp)) (fun _ _ _ h => h) ?_
      (try go_simp)
      refine Pl.wp_float rfl rfl (.pointer (some ⟨g, 0, none⟩)) (fun U hU => by (have u0 := hU.1; have u1 := hU.2; go_simp)) (fun _ _ _ h => h) ?_
      (try go_simp)
      refine Pl.wp_float rfl rfl (.pointer (some ⟨g, 0, none⟩)) (fun U hU => by (have u0 := hU.1; have u1 := hU.2; go_simp)) (fun _ _ _ h => h) ?_
      (try go_simp)
      refine Pl.wp_float rfl rfl (.slice A zs.length c) (fun U hU => by (have u0 := hU.1; have u1 := hU.2; go_simp)) (fun _ _ _ h => h) ?_
      (try go_simp)
      refine Pl.wp_float rfl rfl (.pointer (some ⟨g, 0, none⟩)) (fun U hU => by (have u0 := hU.1; have u1 := hU.2; go_simp)) (fun _ _ _ h => h) ?_
      (try go_simp)
      refine Pl.wp_float rfl rfl (.pointer (some ⟨g, 0, none⟩)) (fun U hU => by (have u0 := hU.1; have u1 := hU.2; go_simp)) (fun _ _ _ h => h) ?_
      (try go_simp)
      refine Pl.wp_float rfl rfl (.pointer (some ⟨g, 1, none⟩)) (fun U hU => by (have u0 := hU.1; have u1 := hU.2; go_simp)) (fun _ _ _ h => h) ?_
      (try go_simp)
      refine Pl.wp_float rfl rfl (.int .i64 at_) (fun U hU => by (have u0 := hU.1; have u1 := hU.2; go_simp)) (fun _ _ _ h => h) ?_
      (try go_simp)
      refine Pl.wp_float rfl rfl (.int .i64 k) (fun U hU => by (have u0 := hU.1; have u1 := hU.2; go_simp)) (fun _ _ _ h => h) ?_
      (try go_simp)
      refine Pl.wp_float rfl rfl (.int .i64 ((at_ : Int) + (k : Int))) (fun U hU => by (have u0 := hU.1; have u1 := hU.2; go_simp; rw [IntKind.wrap_i64]; omega)) (fun _ _ _ h => h) ?_
      (try go_simp)
      refine Pl.wp_one rfl rfl ?_
      go_simp
      refine Calls.mono (HBIT.out _ (.inr rfl)) ?_
      rintro e w' ⟨rfl, hw'⟩
      have hw' := hw'.symm
      subst hw'
      refine ⟨⟨d0, d1⟩, ?_⟩
      (try go_simp)
      refine Pl.wp_float rfl rfl (.pointer (some ⟨w.heap.size + 1, m, none⟩)) (fun U hU => by (have u0 := hU.1; have u1 := hU.2; go_simp)) (fun _ _ _ h => h) ?_
      (try go_simp)
      show wpList _ _ _ _ _ _
      go_wp2
      go_roundw
      case rel => exact ⟨k + 1, by omega, by go_num, HNX.out.1, HNX.out.2.1.drew, HNX.out.2.2.1, HNX.out.2.2.2⟩
      case measure => (simp [intOf]; omega)
    · obtain rfl : k = wd := by omega
      have g3 : decide ((k : Int) < (k : Int)) = false := decide_eq_false (by omega)
      have hgw := HZ.out.2.1.lt
      have hAlt : ∀ j, (Value.slice A zs.length c).ownBlock = some j → j < w.heap.size := by
        obtain ⟨_, _, _, A', c', hbW, hrW, _⟩ := HZ.out.2.1
        have e := ((hbel.block g hgw).trans hbW).symm.trans hbc
        injection e with e
        injection e with e
        have e1 := congrArg (fun a : Array Value => a[0]?) e
        simp only [List.getElem?_toArray, List.getElem?_cons_zero, Option.some.injEq] at e1
        intro j hj
        rw [← e1] at hj
        exact (hrW.lt j hj).2
      have HAL := aside' hAlt
      clear hAlt
      have hsa : IntKind.i64.wrap ((at_ : Int) + (k : Int)) = (at_ : Int) + (k : Int) := by rw [IntKind.wrap_i64]; omega
      have hft := (Foot.refl (fun j => j = g) wr).setCell (p := ⟨g, 1, none⟩) (.inl rfl) (.int .i64 ((at_ : Int) + (k : Int)))
      have ho2 := own_foot hown hft (fun j hj e => by simp only [Value.ownBlock, Option.some.injEq] at hj; omega)
      have hn := PPut.pointsmanref01_Number.calls 300 (some ⟨w.heap.size + 1, 0, none⟩) k (rb zs at_ k k) _ _ _ _ (by rw [rb_length]; exact bools_C ho2 (by omega)) (by rw [rb_length]; exact Nat.le_refl _) (ref_taken zs at_ k h2 h3)
      rw [rb_length] at hn
      have HN := aside' hn
      have hb2 := (hft.blk hbox (by omega))
      have hcur2 : (wr.setCell ⟨g, 1, none⟩ (.int .i64 ((at_ : Int) + (k : Int)))).heap[g]? = some (.cells #[.slice A zs.length c, .int .i64 ((at_ : Int) + (k : Int))] 108 (0, 0)) := by rw [setCell_heap hbc 1 _]; rfl
      have hrow2 := own_foot hrow hft (fun j hj e => by
        cases A with
        | none => simp [Value.ownBlock] at hj
        | some ad =>
          simp only [Value.ownBlock, Option.some.injEq] at hj
          exact (hAne ad rfl).1 (hj.trans e))
      have HE := aside' (And.intro hb2 (And.intro hcur2 (And.intro hrow2 (And.intro hAne (And.intro ((Foot.ofBelow hbel (fun j => j = g)).trans hft (fun _ h => .inl h)) hgw)))))
      clear hn hb2 hcur2 hrow2 ho2 hft hown hbox hbel hbc hrow hrd HI
      go_wp2_with fail
      refine Calls.mono HN.out ?_
      rintro e w8 ⟨rfl, hb8⟩
      have H4 := aside' ((hb8.block w.heap.size (Array.getElem?_eq_some_iff.1 HE.out.1).1).trans HE.out.1)
      have p0 := cellOf H4.out 0
      have p1 := cellOf H4.out 1
      have p2 := cellOf H4.out 2
      simp only [List.getElem?_toArray, List.getElem?_cons_zero, List.getElem?_cons_succ] at p0 p1 p2
      have f0 := frozenOf H4.out 0
      have f1 := frozenOf H4.out 1
      have f2 := frozenOf H4.out 2
      have HB8 := aside' hb8
      clear hb8
      go_wp2
      obtain ⟨hb2, hcur2, hrow2, hAne, hfo, hgw⟩ := HE.out
      have hb8 := HB8.out
      have h4 := H4.out
      have hc8 := (hb8.block g (Array.getElem?_eq_some_iff.1 hcur2).1).trans hcur2
      have hr8 := own_keep hrow2 hb8
      have hf8 := hfo.trans (Foot.ofBelow hb8 (fun j => j = g)) (fun _ h => .inl h)
      have hfin := (((Foot.refl (fun j => j = w.heap.size) w8).setCell (p := ⟨w.heap.size, 0, none⟩) (.inl rfl) (.int .i64 (k : Int))).setCell (p := ⟨w.heap.size, 1, none⟩) (.inl rfl) (.int .u64 (hiOf (numOf (win (bitsL zs) at_ k))))).setCell (p := ⟨w.heap.size, 2, none⟩) (.inl rfl) (.int .u64 (loOf (numOf (win (bitsL zs) at_ k))))
      refine bodyPost_ret (results_row_tmp rfl _ _ w.heap.size 79 _ (0,0) _ rfl (set3 h4 _ _ _) Tryz.underlying79 rfl (by kernel_rfl)) rfl ⟨rfl, ?_, ?_⟩
      · refine ⟨HZ.out.2.1.1, hzl, h3, A, c, (hfin.blk hc8 (by omega)).trans (by rw [Int.natCast_add]), own_foot hr8 hfin (fun j hj e => ?_), hAne⟩
        have := HAL.out j hj; omega
      · exact hf8.trans hfin (fun j hj => .inr (by omega))
end Go.Proofs.YtmoakgkoahjijaaGreatDoor

/- Both cursors as machines: what they answer at any width, there or not. -/
set_option linter.unusedVariables false
set_option linter.unusedSimpArgs false
set_option maxRecDepth 100000
namespace Go.Proofs.YtmoakgkoahjijaaGreatDoor
open Go.RowKit PkMath

/-- What a cursor answers (number and error), and where it stands then. -/
def tk (zs : List Int) : Option Nat → Int → (Int × Int × Int) × Int × Option Nat
  | none, _ => ((0, 0, 0), 2, none)
  | some a, x => if x < 1 ∨ 128 < x then ((0, 0, 0), 1, some a) else if 8 * zs.length - a < x.toNat then ((0, 0, 0), 9, some a) else ((x, hiOf (numOf (win (bitsL zs) a x.toNat)), loOf (numOf (win (bitsL zs) a x.toNat))), 0, some (a + x.toNat))
def leftF (zs : List Int) : Option Nat → Int
  | none => 0
  | some a => 8 * (zs.length : Int) - a
def placeF : Option Nat → Int
  | none => 0
  | some a => a
def restF (zs : List Int) : Option Nat → List Int
  | none => []
  | some a => zs.drop ((a + 7) / 8)
theorem restF_len (zs : List Int) (S : Option Nat) : (restF zs S).length ≤ zs.length := by
  cases S with
  | none => exact Nat.zero_le _
  | some a => simp [restF]
/-- The blocks of a cursor lie in here. -/
def Iv (base top k : Nat) : Prop := base ≤ k ∧ k < top
theorem CurAt.foot {base top : Nat} {W W' : World} {g : Nat} {zs : List Int} {a : Nat} {G : Nat → Prop} (h : CurAt base top W g zs a) (hgt : g < top) (hf : Foot G W W') (hG : ∀ k, Iv base top k → ¬ G k) : CurAt base top W' g zs a := by
  obtain ⟨h1, h2, h3, A, c, h4, h5, h6⟩ := h
  refine ⟨h1, h2, h3, A, c, hf.blk h4 (hG g ⟨h1, hgt⟩), own_foot h5 hf (fun k hk => hG k ⟨(own_lt h5 k hk).1, ?_⟩), h6⟩
  cases A with
  | none => simp [Value.ownBlock] at hk
  | some ad =>
    simp only [Value.ownBlock, Option.some.injEq] at hk
    rw [← hk]
    exact (h6 ad rfl).2
theorem RCurAt.foot {base top : Nat} {W W' : World} {g : Nat} {zs : List Int} {a : Nat} {G : Nat → Prop} (h : RCurAt base top W g zs a) (hgt : g < top) (hf : Foot G W W') (hG : ∀ k, Iv base top k → ¬ G k) : RCurAt base top W' g zs a := by
  obtain ⟨h1, h2, h3, A, c, h4, h5, h6⟩ := h
  refine ⟨h1, h2, h3, A, c, hf.blk h4 (hG g ⟨h1, hgt⟩), own_foot h5 hf (fun k hk => hG k ⟨(own_lt h5 k hk).1, ?_⟩), h6⟩
  cases A with
  | none => simp [Value.ownBlock] at hk
  | some ad =>
    simp only [Value.ownBlock, Option.some.injEq] at hk
    rw [← hk]
    exact (h6 ad rfl).2
def CM (base top : Nat) (W : World) (d : Option Addr) (zs : List Int) : Option Nat → Prop
  | none => d = none
  | some a => ∃ g, d = some ⟨g, 0, none⟩ ∧ g < top ∧ CurAt base top W g zs a
def RM (base top : Nat) (W : World) (d : Option Addr) (zs : List Int) : Option Nat → Prop
  | none => d = none
  | some a => ∃ g, d = some ⟨g, 0, none⟩ ∧ g < top ∧ RCurAt base top W g zs a
section
variable {base top : Nat} {W W' : World} {d : Option Addr} {zs : List Int} {S : Option Nat} {G : Nat → Prop}
theorem CM.foot (h : CM base top W d zs S) (hf : Foot G W W') (hG : ∀ k, Iv base top k → ¬ G k) : CM base top W' d zs S := by
  cases S with
  | none => exact h
  | some a => obtain ⟨g, h1, h2, h3⟩ := h; exact ⟨g, h1, h2, h3.foot h2 hf hG⟩
theorem RM.foot (h : RM base top W d zs S) (hf : Foot G W W') (hG : ∀ k, Iv base top k → ¬ G k) : RM base top W' d zs S := by
  cases S with
  | none => exact h
  | some a => obtain ⟨g, h1, h2, h3⟩ := h; exact ⟨g, h1, h2, h3.foot h2 hf hG⟩
theorem CM.later (h : CM base top W d zs S) (hb : Below W.heap.size W W') : CM base top W' d zs S := h.foot (Foot.ofBelow hb (fun _ => False)) (fun _ _ h => h)
theorem RM.later (h : RM base top W d zs S) (hb : Below W.heap.size W W') : RM base top W' d zs S := h.foot (Foot.ofBelow hb (fun _ => False)) (fun _ _ h => h)
theorem CM.take (hz : ∀ j, 0 ≤ zs.getD j 0 ∧ zs.getD j 0 ≤ 255) (h : CM base top W d zs S) (x : Int) :
    Calls Tryz.prog 17 #[.pointer d, .int .i64 x] W fun e w' => e = .returned (.tuple #[bitsV (tk zs S x).1.1 (tk zs S x).1.2.1 (tk zs S x).1.2.2, .int .i64 (tk zs S x).2.1]) ∧ CM base top w' d zs (tk zs S x).2.2 ∧ Foot (Iv base top) W w' := by
  cases S with
  | none =>
    obtain rfl : d = none := h
    exact (Take_gone x (fun w1 _ => gone_nil w1)).mono fun e w' ⟨he, hb⟩ => ⟨he, rfl, Foot.ofBelow hb _⟩
  | some a =>
    obtain ⟨g, rfl, hg, hc⟩ := h
    by_cases hx : x < 1 ∨ 128 < x
    · have e1 : tk zs (some a) x = ((0, 0, 0), 1, some a) := by simp only [tk]; rw [if_pos hx]
      rw [e1]
      exact (Take_bad hc x hx).mono fun e w' ⟨he, hb⟩ => ⟨he, ⟨g, rfl, hg, hc.below hb⟩, Foot.ofBelow hb _⟩
    · obtain ⟨wd, rfl⟩ : ∃ wd : Nat, x = (wd : Int) := ⟨x.toNat, by omega⟩
      by_cases hs : 8 * zs.length - a < wd
      · have e1 : tk zs (some a) (wd : Int) = ((0, 0, 0), 9, some a) := by simp only [tk]; rw [if_neg hx, if_pos (by rw [Int.toNat_natCast]; exact hs)]
        rw [e1]
        exact (Take_short hc wd (by omega) (by omega) hs).mono fun e w' ⟨he, hb⟩ => ⟨he, ⟨g, rfl, hg, hc.below hb⟩, Foot.ofBelow hb _⟩
      · have e1 : tk zs (some a) (wd : Int) = (((wd : Int), hiOf (numOf (win (bitsL zs) a wd)), loOf (numOf (win (bitsL zs) a wd))), 0, some (a + wd)) := by simp only [tk]; rw [if_neg hx, if_neg (by rw [Int.toNat_natCast]; exact hs), Int.toNat_natCast]
        rw [e1]
        have hbg := hc.1
        exact (Take_ok hz hc wd (by omega) (by omega) (by have := hc.2.2.1; omega)).mono fun e w' ⟨he, hc', hf⟩ => ⟨he, ⟨g, rfl, hg, hc'⟩, hf.mono (fun k _ hk => by subst hk; exact ⟨hbg, hg⟩)⟩
theorem RM.take (hz : ∀ j, 0 ≤ zs.getD j 0 ∧ zs.getD j 0 ≤ 255) (h : RM base top W d zs S) (x : Int) :
    Calls Tryz.prog 18 #[.pointer d, .int .i64 x] W fun e w' => e = .returned (.tuple #[bitsV (tk zs S x).1.1 (tk zs S x).1.2.1 (tk zs S x).1.2.2, .int .i64 (tk zs S x).2.1]) ∧ RM base top w' d zs (tk zs S x).2.2 ∧ Foot (Iv base top) W w' := by
  cases S with
  | none =>
    obtain rfl : d = none := h
    exact (RTake_nil x W).mono fun e w' ⟨he, hb⟩ => ⟨he, rfl, Foot.ofBelow hb _⟩
  | some a =>
    obtain ⟨g, rfl, hg, hc⟩ := h
    by_cases hx : x < 1 ∨ 128 < x
    · have e1 : tk zs (some a) x = ((0, 0, 0), 1, some a) := by simp only [tk]; rw [if_pos hx]
      rw [e1]
      exact (RTake_bad g x W hx).mono fun e w' ⟨he, hb⟩ => ⟨he, ⟨g, rfl, hg, hc.below hb⟩, Foot.ofBelow hb _⟩
    · obtain ⟨wd, rfl⟩ : ∃ wd : Nat, x = (wd : Int) := ⟨x.toNat, by omega⟩
      by_cases hs : 8 * zs.length - a < wd
      · have e1 : tk zs (some a) (wd : Int) = ((0, 0, 0), 9, some a) := by simp only [tk]; rw [if_neg hx, if_pos (by rw [Int.toNat_natCast]; exact hs)]
        rw [e1]
        exact (RTake_short hc wd (by omega) (by omega) hs).mono fun e w' ⟨he, hb⟩ => ⟨he, ⟨g, rfl, hg, hc.below hb⟩, Foot.ofBelow hb _⟩
      · have e1 : tk zs (some a) (wd : Int) = (((wd : Int), hiOf (numOf (win (bitsL zs) a wd)), loOf (numOf (win (bitsL zs) a wd))), 0, some (a + wd)) := by simp only [tk]; rw [if_neg hx, if_neg (by rw [Int.toNat_natCast]; exact hs), Int.toNat_natCast]
        rw [e1]
        have hbg := hc.1
        exact (RTake_ok hz hc wd (by omega) (by omega) (by have := hc.2.2.1; omega)).mono fun e w' ⟨he, hc', hf⟩ => ⟨he, ⟨g, rfl, hg, hc'⟩, hf.mono (fun k _ hk => by subst hk; exact ⟨hbg, hg⟩)⟩
theorem CM.left (h : CM base top W d zs S) : Calls Tryz.prog 19 #[.pointer d] W fun e w' => e = .returned (.int .i64 (leftF zs S)) ∧ ∃ q, w' = W.drewN q := by
  cases S with
  | none => obtain rfl : d = none := h; exact (Left_gone (gone_nil W)).mono fun e w' ⟨he, hw⟩ => ⟨he, 0, hw.symm⟩
  | some a => obtain ⟨g, rfl, hg, hc⟩ := h; exact Left_any hc
theorem RM.left (h : RM base top W d zs S) : Calls Tryz.prog 20 #[.pointer d] W fun e w' => e = .returned (.int .i64 (leftF zs S)) ∧ ∃ q, w' = W.drewN q := by
  cases S with
  | none => obtain rfl : d = none := h; exact (RLeft_nil W).mono fun e w' ⟨he, hw⟩ => ⟨he, 0, hw.symm⟩
  | some a => obtain ⟨g, rfl, hg, hc⟩ := h; exact RLeft_any hc
theorem CM.place (h : CM base top W d zs S) : Calls Tryz.prog 21 #[.pointer d] W fun e w' => e = .returned (.int .i64 (placeF S)) ∧ W = w' := by
  cases S with
  | none => obtain rfl : d = none := h; exact At_gone (gone_nil W)
  | some a => obtain ⟨g, rfl, hg, hc⟩ := h; exact At_any hc
theorem RM.place (h : RM base top W d zs S) : Calls Tryz.prog 22 #[.pointer d] W fun e w' => e = .returned (.int .i64 (placeF S)) ∧ W = w' := by
  cases S with
  | none => obtain rfl : d = none := h; exact RPlace_nil W
  | some a => obtain ⟨g, rfl, hg, hc⟩ := h; exact RPlace_any hc
theorem CM.rest (h : CM base top W d zs S) : Calls Tryz.prog 23 #[.pointer d] W fun e w' => ∃ v, e = .returned v ∧ w'.ownsRow W.heap.size 5 1 v (restF zs S).length (nums .u8 (restF zs S)) ∧ Below W.heap.size W w' := by
  cases S with
  | none => obtain rfl : d = none := h; exact (Rest_gone (gone_nil W)).mono fun e w' ⟨he, hw⟩ => ⟨_, he, World.ownsRow_nil _ _ _ _, hw ▸ Below.refl _ _⟩
  | some a =>
    obtain ⟨g, rfl, hg, hc⟩ := h
    have e1 : (restF zs (some a)).length = zs.length - (a + 7) / 8 := by simp [restF]
    rw [e1]
    exact Rest_any hc
theorem RM.rest (h : RM base top W d zs S) : Calls Tryz.prog 24 #[.pointer d] W fun e w' => ∃ v, e = .returned v ∧ w'.ownsRow W.heap.size 5 1 v (restF zs S).length (nums .u8 (restF zs S)) ∧ Below W.heap.size W w' := by
  cases S with
  | none => obtain rfl : d = none := h; exact (RRest_nil W).mono fun e w' ⟨he, hw⟩ => ⟨_, he, World.ownsRow_nil _ _ _ _, hw ▸ Below.refl _ _⟩
  | some a =>
    obtain ⟨g, rfl, hg, hc⟩ := h
    have e1 : (restF zs (some a)).length = zs.length - (a + 7) / 8 := by simp [restF]
    rw [e1]
    exact RRest_any hc
end
/-- Both cursors as they begin: there or not, alike. -/
def At0 (n : Nat) : Option Nat := if n ≤ 65536 then some 0 else none
def Er0 (n : Nat) : Int := if n ≤ 65536 then 0 else 3
theorem CM.start (A : Option Addr) (n c : Nat) (zs : List Int) (w : World) (hR : Reads w .u8 A n zs) :
    Calls Tryz.prog 14 #[.slice A n c] w fun e w' => ∃ d, e = .returned (.tuple #[.pointer d, .int .i64 (Er0 n)]) ∧ CM w.heap.size w'.heap.size w' d zs (At0 n) ∧ Below w.heap.size w w' := by
  by_cases h : n ≤ 65536
  · have e1 : Er0 n = 0 := if_pos h
    have e2 : At0 n = some 0 := if_pos h
    rw [e1, e2]
    exact (New_any A n c zs w hR h).mono fun e w' ⟨g, he, hc, hb⟩ => ⟨_, he, ⟨g, rfl, hc.lt, hc⟩, hb⟩
  · have e1 : Er0 n = 3 := if_neg h
    have e2 : At0 n = none := if_neg h
    rw [e1, e2]
    exact (New_big A n c w (by omega) hR.2.1).mono fun e w' ⟨he, hw⟩ => ⟨none, he, rfl, hw ▸ Below.refl _ _⟩
theorem RM.start (A : Option Addr) (n c : Nat) (zs : List Int) (w : World) (hR : Reads w .u8 A n zs) :
    Calls Tryz.prog 15 #[.slice A n c] w fun e w' => ∃ d, e = .returned (.tuple #[.pointer d, .int .i64 (Er0 n)]) ∧ RM w.heap.size w'.heap.size w' d zs (At0 n) ∧ Below w.heap.size w w' := by
  by_cases h : n ≤ 65536
  · have e1 : Er0 n = 0 := if_pos h
    have e2 : At0 n = some 0 := if_pos h
    rw [e1, e2]
    exact (RNew_any A n c zs w hR h).mono fun e w' ⟨g, he, hc, hb⟩ => ⟨_, he, ⟨g, rfl, hc.lt, hc⟩, hb⟩
  · have e1 : Er0 n = 3 := if_neg h
    have e2 : At0 n = none := if_neg h
    rw [e1, e2]
    exact (RNew_big A n c w (by omega) hR.2.1).mono fun e w' ⟨he, hw⟩ => ⟨none, he, rfl, hw ▸ Below.refl _ _⟩
theorem there (n b1 t1 b2 t2 : Nat) (W V : World) (d r : Option Addr) (zs : List Int) (h : CM b1 t1 W d zs (At0 n)) (k : RM b2 t2 V r zs (At0 n)) : (d = none ∧ r = none) ∨ ∃ a b, d = some a ∧ r = some b := by
  revert h k
  cases At0 n with
  | none => exact fun h k => .inl ⟨h, k⟩
  | some a => rintro ⟨g, h, _⟩ ⟨g2, h2, _⟩; exact .inr ⟨_, _, h, h2⟩
end Go.Proofs.YtmoakgkoahjijaaGreatDoor

/- The law PacketTakes: both cursors, one that was never made, the book. -/
set_option linter.unusedVariables false
set_option linter.unusedSimpArgs false
set_option maxRecDepth 100000
namespace Go.Proofs.YtmoakgkoahjijaaGreatDoor
open Go.RowKit PkMath

/-- Blocks from B on are as they were. -/
def Hi (B : Nat) (W W' : World) : Prop := ∀ q, B ≤ q → q < W.heap.size → W'.heap[q]? = W.heap[q]?
structure KI (w W : World) (B z b : Nat) (d r : Option Addr) (zs : List Int) (S T : Option Nat) (row : Value) (ps : List (Value × Value)) (F : Nat → Nat → Prop) (ns : Nat → Nat) : Prop where
  bs : Bs W B b row ps F ns
  zr : ZCur W z
  zz : ¬ Zo b row F z
  zB : B ≤ z
  bl : Below w.heap.size w W
  wB : w.heap.size ≤ B
  BW : B ≤ W.heap.size
  cc : ∃ b1 t1, w.heap.size ≤ b1 ∧ b1 ≤ t1 ∧ t1 ≤ B ∧ CM b1 t1 W d zs S ∧ RM t1 B W r zs T
/-- The cursors alone, behind the book's end. -/
structure KE (w W : World) (z : Nat) (d r : Option Addr) (zs : List Int) (S T : Option Nat) : Prop where
  zr : ZCur W z
  bl : Below w.heap.size w W
  cc : ∃ b1 t1 B, w.heap.size ≤ b1 ∧ b1 ≤ t1 ∧ t1 ≤ B ∧ CM b1 t1 W d zs S ∧ RM t1 B W r zs T
section
variable {w W W' : World} {B z b : Nat} {d r : Option Addr} {zs : List Int} {S T S' T' : Option Nat} {row : Value} {ps : List (Value × Value)} {F : Nat → Nat → Prop} {ns : Nat → Nat}
theorem KI.zlt (h : KI w W B z b d r zs S T row ps F ns) : z < W.heap.size := (Array.getElem?_eq_some_iff.1 h.zr).1
theorem Hi.later (hb : Below W.heap.size W W') : Hi B W W' := fun q _ hq => hb.block q hq
theorem KI.later (h : KI w W B z b d r zs S T row ps F ns) (hb : Below W.heap.size W W') : KI w W' B z b d r zs S T row ps F ns := by
  obtain ⟨b1, t1, h1, h2, h3, hc, hr⟩ := h.cc
  exact ⟨h.bs.later hb, (hb.block z h.zlt).trans h.zr, h.zz, h.zB, h.bl.trans (hb.mono h.bl.size), h.wB, Nat.le_trans h.BW hb.size, b1, t1, h1, h2, h3, hc.later hb, hr.later hb⟩
theorem KE.later (h : KE w W z d r zs S T) (hb : Below W.heap.size W W') : KE w W' z d r zs S T := by
  obtain ⟨b1, t1, B, h1, h2, h3, hc, hr⟩ := h.cc
  exact ⟨(hb.block z (Array.getElem?_eq_some_iff.1 h.zr).1).trans h.zr, h.bl.trans (hb.mono h.bl.size), b1, t1, B, h1, h2, h3, hc.later hb, hr.later hb⟩
/-- A cursor worked. -/
theorem KI.work {G : Nat → Prop} (h : KI w W B z b d r zs S T row ps F ns) (hf : Foot G W W') (hG : ∀ k, G k → w.heap.size ≤ k ∧ k < B) (hcc : ∃ b1 t1, w.heap.size ≤ b1 ∧ b1 ≤ t1 ∧ t1 ≤ B ∧ CM b1 t1 W' d zs S' ∧ RM t1 B W' r zs T') :
    KI w W' B z b d r zs S' T' row ps F ns ∧ Hi B W W' :=
  ⟨⟨h.bs.foot hf (fun q hq hg => by have := (h.bs.lt q hq).1; have := (hG q hg).2; omega), hf.blk h.zr (fun hg => by have := (hG z hg).2; have := h.zB; omega), h.zz, h.zB, h.bl.trans (hf.below (fun q hq => (hG q hq).1) h.bl.size), h.wB, Nat.le_trans h.BW hf.size, hcc⟩,
   fun q hq hl => Foot.block hf q hl (fun hg => by have := (hG q hg).2; omega)⟩
theorem KI.cTake (hz : ∀ j, 0 ≤ zs.getD j 0 ∧ zs.getD j 0 ≤ 255) (h : KI w W B z b d r zs S T row ps F ns) (x : Int) :
    Calls Tryz.prog 17 #[.pointer d, .int .i64 x] W fun e w' => e = .returned (.tuple #[bitsV (tk zs S x).1.1 (tk zs S x).1.2.1 (tk zs S x).1.2.2, .int .i64 (tk zs S x).2.1]) ∧ KI w w' B z b d r zs (tk zs S x).2.2 T row ps F ns ∧ Hi B W w' := by
  obtain ⟨b1, t1, h1, h2, h3, hc, hr⟩ := h.cc
  refine (hc.take hz x).mono ?_
  rintro e w' ⟨he, hc', hf⟩
  exact ⟨he, h.work hf (fun k hk => ⟨Nat.le_trans h1 hk.1, Nat.lt_of_lt_of_le hk.2 h3⟩) ⟨b1, t1, h1, h2, h3, hc', hr.foot hf (fun k hk hk' => by have := hk.1; have := hk'.2; omega)⟩⟩
theorem KI.rTake (hz : ∀ j, 0 ≤ zs.getD j 0 ∧ zs.getD j 0 ≤ 255) (h : KI w W B z b d r zs S T row ps F ns) (x : Int) :
    Calls Tryz.prog 18 #[.pointer r, .int .i64 x] W fun e w' => e = .returned (.tuple #[bitsV (tk zs T x).1.1 (tk zs T x).1.2.1 (tk zs T x).1.2.2, .int .i64 (tk zs T x).2.1]) ∧ KI w w' B z b d r zs S (tk zs T x).2.2 row ps F ns ∧ Hi B W w' := by
  obtain ⟨b1, t1, h1, h2, h3, hc, hr⟩ := h.cc
  refine (hr.take hz x).mono ?_
  rintro e w' ⟨he, hr', hf⟩
  exact ⟨he, h.work hf (fun k hk => ⟨by have := hk.1; omega, hk.2⟩) ⟨b1, t1, h1, h2, h3, hc.foot hf (fun k hk hk' => by have := hk.2; have := hk'.1; omega), hr'⟩⟩
theorem ZCur.gone (h : ZCur W z) (hb : Below W.heap.size W W') : Calls Tryz.prog 135 #[.pointer (some ⟨z, 0, none⟩)] W' fun e w' => e = .returned (.bool true) ∧ W' = w' :=
  gone_zero z W' ((hb.block z (Array.getElem?_eq_some_iff.1 h).1).trans h)
theorem KI.zTake (h : KI w W B z b d r zs S T row ps F ns) (x : Int) :
    Calls Tryz.prog 17 #[.pointer (some ⟨z, 0, none⟩), .int .i64 x] W fun e w' => e = .returned (.tuple #[bitsV 0 0 0, .int .i64 2]) ∧ KI w w' B z b d r zs S T row ps F ns ∧ Hi B W w' :=
  (Take_gone x (fun w1 hb => h.zr.gone hb)).mono fun e w' ⟨he, hb⟩ => ⟨he, h.later hb, Hi.later hb⟩
/-- The book holds one list more. -/
theorem KI.kept {row' : Value} {ps' : List (Value × Value)} {F' : Nat → Nat → Prop} {ns' : Nat → Nat} {X : Nat → Prop} (h : KI w W B z b d r zs S T row ps F ns) (hbs : Bs W' B b row' ps' F' ns') (hf : Foot (Zo b row F) W W')
    (hz : ∀ q, Zo b row' F' q → Zo b row F q ∨ X q ∨ W.heap.size ≤ q) (hX : ¬ X z) : KI w W' B z b d r zs S T row' ps' F' ns' := by
  have hzl := h.zlt
  obtain ⟨b1, t1, h1, h2, h3, hc, hr⟩ := h.cc
  refine ⟨hbs, hf.blk h.zr h.zz, fun hq => ?_, h.zB, h.bl.trans (hf.below (fun q hq => Nat.le_trans h.wB (h.bs.lt q hq).1) h.bl.size), h.wB, Nat.le_trans h.BW hf.size, b1, t1, h1, h2, h3, hc.foot hf (fun k hk hk' => ?_), hr.foot hf (fun k hk hk' => ?_)⟩
  · rcases hz z hq with h' | h' | h'
    · exact h.zz h'
    · exact hX h'
    · omega
  · have := hk.2; have := (h.bs.lt k hk').1; omega
  · have := hk.2; have := (h.bs.lt k hk').1; omega
theorem KI.shut (h : KI w W B z b d r zs S T row ps F ns) (hf : Foot (Zo b row F) W W') : KE w W' z d r zs S T := by
  obtain ⟨b1, t1, h1, h2, h3, hc, hr⟩ := h.cc
  refine ⟨hf.blk h.zr h.zz, h.bl.trans (hf.below (fun q hq => Nat.le_trans h.wB (h.bs.lt q hq).1) h.bl.size), b1, t1, B, h1, h2, h3, hc.foot hf (fun k hk hk' => ?_), hr.foot hf (fun k hk hk' => ?_)⟩
  · have := hk.2; have := (h.bs.lt k hk').1; omega
  · have := hk.2; have := (h.bs.lt k hk').1; omega
/-- The state ahead of the book; tb: the block of the twin. -/
structure K0 (w W : World) (tb B : Nat) (d r : Option Addr) (zs : List Int) (S T : Option Nat) : Prop where
  bl : Below w.heap.size w W
  wt : w.heap.size ≤ tb
  tB : tb < B
  BW : B ≤ W.heap.size
  cc : ∃ b1 t1, tb < b1 ∧ b1 ≤ t1 ∧ t1 ≤ B ∧ CM b1 t1 W d zs S ∧ RM t1 B W r zs T
theorem K0.put {tb : Nat} (h : K0 w W tb B d r zs S T) (hf : Foot (fun k => k = tb) W W') : K0 w W' tb B d r zs S T := by
  obtain ⟨b1, t1, h1, h2, h3, hc, hr⟩ := h.cc
  exact ⟨h.bl.trans (hf.below (fun k hk => by rw [hk]; exact h.wt) h.bl.size), h.wt, h.tB, Nat.le_trans h.BW hf.size, b1, t1, h1, h2, h3, hc.foot hf (fun k hk e => by have := hk.1; omega), hr.foot hf (fun k hk e => by have := hk.1; omega)⟩
theorem K0.open {tb : Nat} (h : K0 w W tb B d r zs S T) :
    KI w (((W.alloc (.cells #[.slice none 0 0, .int .i64 0, .bool false] 76)).alloc (.cells (bookCells 0 (.slice none 0 0)) 61)).setRow (W.heap.size + 1) (bookCells 0 (.slice none 0 0))) B W.heap.size (W.heap.size + 1) d r zs S T (.slice none 0 0) [] (fun _ _ => False) (fun _ => 0) := by
  have hBW := h.BW
  have hz := heap_alloc_new W (.cells #[.slice none 0 0, .int .i64 0, .bool false] 76)
  have ha : Below W.heap.size W (W.alloc (.cells #[.slice none 0 0, .int .i64 0, .bool false] 76)) := (Below.refl _ _).alloc (Nat.le_refl _) _
  have hs : (W.alloc (.cells #[.slice none 0 0, .int .i64 0, .bool false] 76)).heap.size = W.heap.size + 1 := World.size_alloc _ _
  obtain ⟨hb, hf⟩ := Bs.zero (W.alloc (.cells #[.slice none 0 0, .int .i64 0, .bool false] 76)) B (by omega)
  rw [hs] at hb hf
  have hbel := hf.below (B := W.heap.size) (fun _ h => h.elim) (by omega)
  have hb2 := ha.trans hbel
  obtain ⟨b1, t1, h1, h2, h3, hc, hr⟩ := h.cc
  refine ⟨hb, hf.blk hz (fun h => h), ?_, hBW, h.bl.trans (hb2.mono h.bl.size), ?_, Nat.le_trans hBW hb2.size, b1, t1, ?_, h2, h3, hc.later hb2, hr.later hb2⟩
  · rintro (h | h | ⟨i, h⟩)
    · omega
    · simp [Value.ownBlock] at h
    · exact h
  · have := h.wt; have := h.tB; omega
  · have := h.wt; omega
/-- Both cursors answer alike. -/
theorem KI.both (hz : ∀ j, 0 ≤ zs.getD j 0 ∧ zs.getD j 0 ≤ 255) (w : World) (B z b : Nat) (d r : Option Addr) (S : Option Nat) (row : Value) (ps : List (Value × Value)) (F : Nat → Nat → Prop) (ns : Nat → Nat) (x : Int) :
    ∃ (v1 v2 v3 er : Int) (S' : Option Nat),
      (∀ W T, KI w W B z b d r zs S T row ps F ns → Calls Tryz.prog 17 #[.pointer d, .int .i64 x] W fun e w' => e = .returned (.tuple #[.agg #[.int .i64 v1, .int .u64 v2, .int .u64 v3], .int .i64 er]) ∧ KI w w' B z b d r zs S' T row ps F ns ∧ Hi B W w') ∧
      (∀ W T, KI w W B z b d r zs T S row ps F ns → Calls Tryz.prog 18 #[.pointer r, .int .i64 x] W fun e w' => e = .returned (.tuple #[.agg #[.int .i64 v1, .int .u64 v2, .int .u64 v3], .int .i64 er]) ∧ KI w w' B z b d r zs T S' row ps F ns ∧ Hi B W w') :=
  ⟨_, _, _, _, _, fun W T h => h.cTake hz x, fun W T h => h.rTake hz x⟩
theorem KI.zTake' (h : KI w W B z b d r zs S T row ps F ns) (x : Int) :
    Calls Tryz.prog 17 #[.pointer (some ⟨z, 0, none⟩), .int .i64 x] W fun e w' => e = .returned (.tuple #[.agg #[.int .i64 0, .int .u64 0, .int .u64 0], .int .i64 2]) ∧ KI w w' B z b d r zs S T row ps F ns ∧ Hi B W w' := h.zTake x
theorem KI.cLeft (h : KI w W B z b d r zs S T row ps F ns) : Calls Tryz.prog 19 #[.pointer d] W fun e w' => e = .returned (.int .i64 (leftF zs S)) ∧ ∃ q, w' = W.drewN q := by
  obtain ⟨b1, t1, _, _, _, hc, _⟩ := h.cc; exact hc.left
theorem KI.rLeft (h : KI w W B z b d r zs S T row ps F ns) : Calls Tryz.prog 20 #[.pointer r] W fun e w' => e = .returned (.int .i64 (leftF zs T)) ∧ ∃ q, w' = W.drewN q := by
  obtain ⟨b1, t1, _, _, _, _, hr⟩ := h.cc; exact hr.left
theorem KI.cPlace (h : KI w W B z b d r zs S T row ps F ns) : Calls Tryz.prog 21 #[.pointer d] W fun e w' => e = .returned (.int .i64 (placeF S)) ∧ W = w' := by
  obtain ⟨b1, t1, _, _, _, hc, _⟩ := h.cc; exact hc.place
theorem KI.rPlace (h : KI w W B z b d r zs S T row ps F ns) : Calls Tryz.prog 22 #[.pointer r] W fun e w' => e = .returned (.int .i64 (placeF T)) ∧ W = w' := by
  obtain ⟨b1, t1, _, _, _, _, hr⟩ := h.cc; exact hr.place
theorem KI.end (h : KI w W B z b d r zs S T row ps F ns) : KE w W z d r zs S T := by
  obtain ⟨b1, t1, h1, h2, h3, hc, hr⟩ := h.cc
  exact ⟨h.zr, h.bl, b1, t1, B, h1, h2, h3, hc, hr⟩
theorem KE.cRest (h : KE w W z d r zs S T) : Calls Tryz.prog 23 #[.pointer d] W fun e w' => ∃ v, e = .returned v ∧ w'.ownsRow W.heap.size 5 1 v (restF zs S).length (nums .u8 (restF zs S)) ∧ Below W.heap.size W w' := by
  obtain ⟨b1, t1, B, _, _, _, hc, _⟩ := h.cc; exact hc.rest
theorem KE.rRest (h : KE w W z d r zs S T) : Calls Tryz.prog 24 #[.pointer r] W fun e w' => ∃ v, e = .returned v ∧ w'.ownsRow W.heap.size 5 1 v (restF zs T).length (nums .u8 (restF zs T)) ∧ Below W.heap.size W w' := by
  obtain ⟨b1, t1, B, _, _, _, _, hr⟩ := h.cc; exact hr.rest
theorem KE.zLeft (h : KE w W z d r zs S T) : Calls Tryz.prog 19 #[.pointer (some ⟨z, 0, none⟩)] W fun e w' => e = .returned (.int .i64 0) ∧ W = w' := Left_gone (gone_zero z W h.zr)
theorem KE.zAt (h : KE w W z d r zs S T) : Calls Tryz.prog 21 #[.pointer (some ⟨z, 0, none⟩)] W fun e w' => e = .returned (.int .i64 0) ∧ W = w' := At_gone (gone_zero z W h.zr)
theorem KE.zRest (h : KE w W z d r zs S T) : Calls Tryz.prog 23 #[.pointer (some ⟨z, 0, none⟩)] W fun e w' => e = .returned (.slice none 0 0) ∧ W = w' := Rest_gone (gone_zero z W h.zr)
end
end Go.Proofs.YtmoakgkoahjijaaGreatDoor

/- The walk of the law PacketTakes. -/
set_option linter.unusedVariables false
set_option linter.unusedSimpArgs false
namespace Go.Proofs.YtmoakgkoahjijaaGreatDoor
open Go.RowKit PkMath

/-- The head of a round. -/
def HdK (w : World) (B z b : Nat) (d r : Option Addr) (zs : List Int) (k : Nat) (W : World) : Prop := ∃ S row ps F ns, ps.length ≤ k ∧ KI w W B z b d r zs S S row ps F ns
set_option maxRecDepth 100000 in
set_option maxHeartbeats 6400000 in
theorem takes_law (A : Option Addr) (n c : Nat) (zs : List Int) (A2 : Option Addr) (m c2 : Nat) (xs : List Int) (w : World) (hR : Reads w .u8 A n zs) (hX : Reads w .i64 A2 m xs) (hz : ∀ j, 0 ≤ zs.getD j 0 ∧ zs.getD j 0 ≤ 255) :
    Calls Tryz.prog 4 #[.slice A n c, .slice A2 m c2] w fun e w' => e = .returned (.bool true) ∧ Below w.heap.size w w' := by
  have hn := hR.2.1
  have hm := hX.2.1
  have HR := aside' (And.intro hR (And.intro hX hz))
  clear hR hX hz
  by_cases h1 : 100000 < n
  · have g1 : decide (100000 < (n : Int)) = true := decide_eq_true (by omega)
    go_enter Tryz.func4, Tryz.ntmps4
    go_wp2
    go_ret
    exact ⟨rfl, Below.refl _ _⟩
  · have g1 : decide (100000 < (n : Int)) = false := decide_eq_false (by omega)
    by_cases h2 : 2000 < m
    · have g2 : decide (2000 < (m : Int)) = true := decide_eq_true (by omega)
      go_enter Tryz.func4, Tryz.ntmps4
      go_wp2
      go_ret
      exact ⟨rfl, Below.refl _ _⟩
    · have g2 : decide (2000 < (m : Int)) = false := decide_eq_false (by omega)
      have HT := aside' (twin_any A n c zs w HR.out.1 (by omega))
      go_enter Tryz.func4, Tryz.ntmps4
      go_wp2_with fail
      refine Calls.mono HT.out ?_
      rintro e w1 ⟨g, kt, rfl, hg1, hg2, htw, hb1, hown⟩
      have hkt := htw.1
      have hkt2 := htw.2.2.2
      have HN := aside' (CM.start (some ⟨g, 0, none⟩) n kt zs w1 htw.2.1)
      have H1 := aside' (And.intro hg1 (And.intro hg2 (And.intro htw (And.intro hb1 hown))))
      clear HT hg1 hg2 htw hb1 hown
      go_wp2_with fail
      refine Calls.mono HN.out ?_
      rintro e w2 ⟨d, rfl, hc, hb2⟩
      have hb02 : Below w.heap.size w w2 := H1.out.2.2.2.1.trans (hb2.mono H1.out.2.2.2.1.size)
      have HN2 := aside' (RM.start A n c zs w2 (HR.out.1.below hb02))
      have H2 := aside' (And.intro hc (And.intro hb2 hb02))
      clear HN hc hb2 hb02
      go_wp2_with fail
      refine Calls.mono HN2.out ?_
      rintro e w3 ⟨r, rfl, hr, hb3⟩
      have H3 : Aside (K0 w w3 g w3.heap.size d r zs (At0 n) (At0 n) ∧ TwinAt w3 g kt n zs ∧ w3.ownsRow w.heap.size 5 1 (.slice (some ⟨g, 0, none⟩) n kt) n (nums .u8 zs)) := by
        obtain ⟨hg1, hg2, htw, hb1, hown⟩ := H1.out
        obtain ⟨hc, hb2, hb02⟩ := H2.out
        have hs2 := hb2.size
        have hs3 := hb3.size
        have hb13 : Below w1.heap.size w1 w3 := hb2.trans (hb3.mono hs2)
        exact ⟨⟨hb02.trans (hb3.mono hb02.size), hg1, by omega, Nat.le_refl _, w1.heap.size, w2.heap.size, by omega, hs2, hs3, hc.later hb3, hr⟩, htw.below hg2 hb13, own_keep hown hb13⟩
      have hdr := there n _ _ _ _ _ _ d r zs H2.out.1 hr
      have HLF := aside' (left_any g kt n c A zs w3 H3.out.2.1 (HR.out.1.below H3.out.1.bl))
      have neq1 : ∀ W : World, (binOp .eql 67 (.pointer d) (.pointer none)).run Tryz.prog W = .ok (.bool d.isNone) W := by rcases hdr with ⟨rfl, rfl⟩ | ⟨a, a', rfl, rfl⟩ <;> (intro W; kernel_rfl)
      have neq2 : ∀ W : World, (binOp .eql 70 (.pointer r) (.pointer none)).run Tryz.prog W = .ok (.bool d.isNone) W := by rcases hdr with ⟨rfl, rfl⟩ | ⟨a, a', rfl, rfl⟩ <;> (intro W; kernel_rfl)
      have b0 : (d.isNone != d.isNone) = false := by simp
      have e1 : (Er0 n != Er0 n) = false := by simp
      generalize d.isNone = dn at *
      generalize Er0 n = E at *
      generalize At0 n = S0 at *
      clear H1 H2 hr hb3 HN2 hdr
      go_wp2_with fail
      refine Calls.mono HLF.out ?_
      rintro e w4 ⟨rfl, q, rfl⟩
      have H4 : Aside (K0 w (w3.drewN q) g w3.heap.size d r zs S0 S0 ∧ ∃ ys : List Int, ys.length = n ∧ (w3.drewN q).ownsRow w.heap.size 5 1 (.slice (some ⟨g, 0, none⟩) n kt) n (nums .u8 ys)) :=
        ⟨H3.out.1.put ((Foot.refl _ w3).drewN q), zs, HR.out.1.1, H3.out.2.2⟩
      generalize w3.heap.size = B at *
      generalize w3.drewN q = V at *
      clear H3 HLF neq1 neq2 b0 e1
      go_wp2
      go_loopw [10] (fun i wr => ∃ k : Nat, k ≤ n ∧ i = .int .i64 k ∧ Aside (K0 w wr g B d r zs S0 S0 ∧ ∃ ys : List Int, ys.length = n ∧ wr.ownsRow w.heap.size 5 1 (.slice (some ⟨g, 0, none⟩) n kt) n (nums .u8 ys))) (fun i _ => n - (intOf i).toNat)
      case atStart => exact ⟨0, Nat.zero_le _, rfl, H4.out⟩
      case round =>
        obtain ⟨k, hk, rfl, HI⟩ := hrel
        by_cases hlt : k < n
        · obtain ⟨hk0, ys, hyl, how⟩ := HI.out
          clear HI H4
          have g4 : decide ((k : Int) < (n : Int)) = true := decide_eq_true (by omega)
          have dg : wr.cell? ⟨g, k, none⟩ = some (.int .u8 (ys.getD k 0)) := own_at how k hlt
          have fg : wr.frozen? ⟨g, k, none⟩ = false := how.frozenAt k
          have j0 : (0 : Int) ≤ (k : Int) := by omega
          have j1 : (k : Int) < (n : Int) := by omega
          have HNX := aside' (And.intro (hk0.put ((Foot.refl (fun j => j = g) wr).setCell (p := ⟨g, k, none⟩) (.inl rfl) (.int .u8 238))) (And.intro (own_put how k 238) hyl))
          generalize ys.getD k 0 = y at *
          clear hk0 how hyl
          go_wp2
          go_roundw
          case rel => exact ⟨k + 1, by omega, by go_num, HNX.out.1, ys.set k 238, by rw [List.length_set]; exact HNX.out.2.2, HNX.out.2.1⟩
          case measure => (simp [intOf]; omega)
        · obtain rfl : k = n := by omega
          have g4 : decide ((k : Int) < (k : Int)) = false := decide_eq_false (by omega)
          have HK0 := aside' HI.out.1
          have HOP := aside' HI.out.1.open
          clear HI H4
          have HBO : Aside (((wr.alloc (.cells #[.slice none 0 0, .int .i64 0, .bool false] 76)).alloc (.cells (bookCells 0 (.slice none 0 0)) 61)).heap[wr.heap.size + 1]? = some (.cells (bookCells 0 (.slice none 0 0)) 61)) := aside' (by have h := heap_alloc_new (wr.alloc (.cells #[.slice none 0 0, .int .i64 0, .bool false] 76)) (.cells (bookCells 0 (.slice none 0 0)) 61); rwa [World.size_alloc] at h)
          go_wp2_with ((with_reducible show wpList _ _ _ _ _ _); refine wpList_store_row rfl 61 (.tmp 12) (.tmp 67) rfl (wr.heap.size + 1) (bookCells 0 (.slice none 0 0)) rfl rfl 61 (bookCells 0 (.slice none 0 0)) HBO.out (by kernel_rfl) rfl (by kernel_rfl) ?_; refine wpList_seen ?_; intro V2 hV; have HV := aside' hV; clear hV)
          have HH := aside' (show HdK w B wr.heap.size (wr.heap.size + 1) d r zs 0 V2 from ⟨_, _, _, _, _, Nat.le_refl _, by rw [HV.out]; exact HOP.out⟩)
          clear HV HOP HBO HK0
          generalize wr.heap.size + 1 = b at *
          generalize wr.heap.size = z at *
          go_loopw [13] (fun i ws => ∃ k : Nat, k ≤ m ∧ i = .int .i64 k ∧ Aside (HdK w B z b d r zs k ws)) (fun i _ => m - (intOf i).toNat)
          case atStart => exact ⟨0, Nat.zero_le _, rfl, HH.out⟩
          case round =>
            obtain ⟨k2, hk2, rfl, HI⟩ := hrel
            obtain ⟨S, row, ps, F, ns, hps, hki⟩ := HI.out
            have HKI := aside' hki
            clear hki HI HH
            by_cases hlt2 : k2 < m
            · have g5 : decide ((k2 : Int) < (m : Int)) = true := decide_eq_true (by omega)
              obtain ⟨xb, xo, rfl, hxb, hxc⟩ := HR.out.2.1.plain (by omega)
              have HXW := aside' (fun (W : World) (hb : Below w.heap.size w W) => (hb.cell (p := ⟨xb, xo + k2, none⟩) hxb).trans (hxc k2 hlt2))
              generalize xs.getD k2 0 = X at *
              obtain ⟨v1, v2, v3, er, S', hC, hD⟩ := KI.both HR.out.2.2 w B z b d r S row ps F ns X
              have HC := aside' hC
              have HD := aside' hD
              have hneq : ∀ W0 : World, (binOp .neq 79 (.agg #[.int .i64 v1, .int .u64 v2, .int .u64 v3]) (.agg #[.int .i64 v1, .int .u64 v2, .int .u64 v3])).run Tryz.prog W0 = .ok (.bool false) W0 := by
                intro W0
                have h1 : (v1 == v1) = true := by simp
                have h2 : (v2 == v2) = true := by simp
                have h3 : (v3 == v3) = true := by simp
                go_simp
              have er0 : (er != er) = false := by simp
              clear hxc hC hD
              have i0 : (0 : Int) ≤ (k2 : Int) := by omega
              have i1 : (k2 : Int) < (m : Int) := by omega
              have x1 := HXW.out _ HKI.out.bl
              have HT1 := aside' (HC.out wr S HKI.out)
              clear HC
              go_wp2_with fail
              refine Calls.mono HT1.out ?_
              rintro e w5 ⟨rfl, hk5, hh5⟩
              have H5 := aside' (And.intro hk5 True.intro)
              clear hk5 hh5 HT1 HKI x1
              go_upto_region 18 with fail
              have H5b : Aside (KI w (w5.alloc (.cells #[.int .i64 v1, .int .u64 v2, .int .u64 v3] 79)) B z b d r zs S' S row ps F ns ∧ (w5.alloc (.cells #[.int .i64 v1, .int .u64 v2, .int .u64 v3] 79)).heap[w5.heap.size]? = some (.cells #[.int .i64 v1, .int .u64 v2, .int .u64 v3] 79 (0, 0)) ∧ B ≤ w5.heap.size) :=
                aside' ⟨H5.out.1.later ((Below.refl _ _).alloc (Nat.le_refl _) _), heap_alloc_new _ _, H5.out.1.BW⟩
              clear H5
              generalize w5.alloc (.cells #[.int .i64 v1, .int .u64 v2, .int .u64 v3] 79) = W5 at *
              generalize w5.heap.size = q5 at *
              have x1 := HXW.out _ H5b.out.1.bl
              have HT2 := aside' (HD.out W5 S' H5b.out.1)
              clear HD
              go_wp2_with fail
              refine Calls.mono HT2.out ?_
              rintro e w6 ⟨rfl, hk6, hh6⟩
              have H6 : Aside (KI w w6 B z b d r zs S' S' row ps F ns ∧ w6.heap[q5]? = some (.cells #[.int .i64 v1, .int .u64 v2, .int .u64 v3] 79 (0, 0)) ∧ B ≤ q5) :=
                aside' ⟨hk6, (hh6 q5 H5b.out.2.2 (Array.getElem?_eq_some_iff.1 H5b.out.2.1).1).trans H5b.out.2.1, H5b.out.2.2⟩
              clear hk6 hh6 HT2 H5b x1
              go_upto_region 19 with fail
              have H6b : Aside (KI w (w6.alloc (.cells #[.int .i64 v1, .int .u64 v2, .int .u64 v3] 79)) B z b d r zs S' S' row ps F ns ∧ (w6.alloc (.cells #[.int .i64 v1, .int .u64 v2, .int .u64 v3] 79)).heap[q5]? = some (.cells #[.int .i64 v1, .int .u64 v2, .int .u64 v3] 79 (0, 0)) ∧ (w6.alloc (.cells #[.int .i64 v1, .int .u64 v2, .int .u64 v3] 79)).heap[w6.heap.size]? = some (.cells #[.int .i64 v1, .int .u64 v2, .int .u64 v3] 79 (0, 0)) ∧ B ≤ q5 ∧ B ≤ w6.heap.size) := by
                have ha : Below w6.heap.size w6 (w6.alloc (.cells #[.int .i64 v1, .int .u64 v2, .int .u64 v3] 79)) := (Below.refl _ _).alloc (Nat.le_refl _) _
                exact aside' ⟨H6.out.1.later ha, (ha.block q5 (Array.getElem?_eq_some_iff.1 H6.out.2.1).1).trans H6.out.2.1, heap_alloc_new _ _, H6.out.2.2, H6.out.1.BW⟩
              clear H6
              generalize w6.alloc (.cells #[.int .i64 v1, .int .u64 v2, .int .u64 v3] 79) = W6 at *
              generalize w6.heap.size = q6 at *
              have x1 := HXW.out _ H6b.out.1.bl
              have HT3 := aside' (H6b.out.1.zTake' X)
              go_wp2_with fail
              refine Calls.mono HT3.out ?_
              rintro e w7 ⟨rfl, hk7, hh7⟩
              have H7 : Aside (KI w w7 B z b d r zs S' S' row ps F ns ∧ w7.heap[q5]? = some (.cells #[.int .i64 v1, .int .u64 v2, .int .u64 v3] 79 (0, 0)) ∧ w7.heap[q6]? = some (.cells #[.int .i64 v1, .int .u64 v2, .int .u64 v3] 79 (0, 0))) :=
                aside' ⟨hk7, (hh7 q5 H6b.out.2.2.2.1 (Array.getElem?_eq_some_iff.1 H6b.out.2.1).1).trans H6b.out.2.1, (hh7 q6 H6b.out.2.2.2.2 (Array.getElem?_eq_some_iff.1 H6b.out.2.2.1).1).trans H6b.out.2.2.1⟩
              clear hk7 hh7 HT3 H6b x1
              go_upto_region 20 with fail
              have H7b : Aside (KI w (w7.alloc (.cells #[.int .i64 0, .int .u64 0, .int .u64 0] 79)) B z b d r zs S' S' row ps F ns ∧ (w7.alloc (.cells #[.int .i64 0, .int .u64 0, .int .u64 0] 79)).heap[q5]? = some (.cells #[.int .i64 v1, .int .u64 v2, .int .u64 v3] 79 (0, 0)) ∧ (w7.alloc (.cells #[.int .i64 0, .int .u64 0, .int .u64 0] 79)).heap[q6]? = some (.cells #[.int .i64 v1, .int .u64 v2, .int .u64 v3] 79 (0, 0)) ∧ (w7.alloc (.cells #[.int .i64 0, .int .u64 0, .int .u64 0] 79)).heap[w7.heap.size]? = some (.cells #[.int .i64 0, .int .u64 0, .int .u64 0] 79 (0, 0))) := by
                have ha : Below w7.heap.size w7 (w7.alloc (.cells #[.int .i64 0, .int .u64 0, .int .u64 0] 79)) := (Below.refl _ _).alloc (Nat.le_refl _) _
                exact aside' ⟨H7.out.1.later ha, (ha.block q5 (Array.getElem?_eq_some_iff.1 H7.out.2.1).1).trans H7.out.2.1, (ha.block q6 (Array.getElem?_eq_some_iff.1 H7.out.2.2).1).trans H7.out.2.2, heap_alloc_new _ _⟩
              clear H7
              generalize w7.alloc (.cells #[.int .i64 0, .int .u64 0, .int .u64 0] 79) = W7 at *
              generalize w7.heap.size = q7 at *
              have a0 : W7.cell? ⟨q5, 0, none⟩ = some (.int .i64 v1) := cellOf H7b.out.2.1 0
              have a1 : W7.cell? ⟨q5, 1, none⟩ = some (.int .u64 v2) := cellOf H7b.out.2.1 1
              have a2 : W7.cell? ⟨q5, 2, none⟩ = some (.int .u64 v3) := cellOf H7b.out.2.1 2
              have b0 : W7.cell? ⟨q6, 0, none⟩ = some (.int .i64 v1) := cellOf H7b.out.2.2.1 0
              have b1 : W7.cell? ⟨q6, 1, none⟩ = some (.int .u64 v2) := cellOf H7b.out.2.2.1 1
              have b2 : W7.cell? ⟨q6, 2, none⟩ = some (.int .u64 v3) := cellOf H7b.out.2.2.1 2
              have HL1 := aside' H7b.out.1.cLeft
              go_wp2_with fail
              refine Calls.mono HL1.out ?_
              rintro e w8 ⟨rfl, qa, rfl⟩
              have HL2 := aside' (H7b.out.1.later (below_drewN (Below.refl _ _) qa)).rLeft
              have l0 : (leftF zs S' != leftF zs S') = false := by simp
              generalize leftF zs S' = lf at *
              go_wp2_with fail
              refine Calls.mono HL2.out ?_
              rintro e w9 ⟨rfl, qb, rfl⟩
              have H9 : Aside (KI w ((W7.drewN qa).drewN qb) B z b d r zs S' S' row ps F ns ∧ ((W7.drewN qa).drewN qb).heap[q7]? = some (.cells #[.int .i64 0, .int .u64 0, .int .u64 0] 79 (0, 0))) :=
                aside' ⟨(H7b.out.1.later (below_drewN (Below.refl _ _) qa)).later (below_drewN (Below.refl _ _) qb), H7b.out.2.2.2⟩
              clear a0 a1 a2 b0 b1 b2 H7b HL1 HL2
              generalize (W7.drewN qa).drewN qb = W9 at *
              have HP1 := aside' H9.out.1.cPlace
              have HP2 := aside' H9.out.1.rPlace
              have p0 : (placeF S' != placeF S') = false := by simp
              generalize placeF S' = pf at *
              go_wp2_with fail
              refine Calls.mono HP1.out ?_
              rintro e wa ⟨rfl, hwa⟩
              have hwa := hwa.symm
              subst hwa
              go_wp2_with fail
              refine Calls.mono HP2.out ?_
              rintro e wb ⟨rfl, hwb⟩
              have hwb := hwb.symm
              subst hwb
              have a0 : wb.cell? ⟨q7, 0, none⟩ = some (.int .i64 0) := cellOf H9.out.2 0
              have a1 : wb.cell? ⟨q7, 1, none⟩ = some (.int .u64 0) := cellOf H9.out.2 1
              have a2 : wb.cell? ⟨q7, 2, none⟩ = some (.int .u64 0) := cellOf H9.out.2 2
              clear HP1 HP2
              go_upto_region 22 with fail
              have HE := aside' H9.out.1
              clear H9 a0 a1 a2 hneq er0 l0 p0
              obtain ⟨rm, hrm⟩ : ∃ rm, rm = k2 % 100 := ⟨_, rfl⟩
              have hrb : rm < 100 := by omega
              have m1 : ((k2 : Int)) % 100 = (rm : Int) := by omega
              have m2 : ((k2 : Int)).tmod 100 = (rm : Int) := by rw [Int.tmod_eq_emod_of_nonneg (by omega)]; exact m1
              clear hrm
              by_cases hz : rm = 0
              · subst hz
                have HB1 := aside' HE.out.end.cRest
                have hlen : (restF zs S').length ≤ 100000 := by have := restF_len zs S'; have := HR.out.1.1; omega
                go_wp2_with fail
                refine Calls.mono HB1.out ?_
                rintro e y1 ⟨u1, rfl, hv1, hb1⟩
                have HE1 := aside' (HE.out.later hb1)
                have HB2 := aside' HE1.out.end.rRest
                have HV1 := aside' hv1
                clear hv1 hb1 HB1 HE
                go_wp2_with fail
                refine Calls.mono HB2.out ?_
                rintro e y2 ⟨u2, rfl, hv2, hb2⟩
                obtain ⟨A1, c1, rfl, _, R1⟩ := own_reads HV1.out
                obtain ⟨A3, c3, rfl, _, R2⟩ := own_reads hv2
                have HSB := aside' (same_bytes A1 A3 _ c1 _ c3 _ _ y2 (R1.below hb2) R2)
                rw [decide_eq_true rfl] at HSB
                have HE2 := aside' (HE1.out.later hb2)
                clear R1 R2 hv2 hb2 HB2 HE1 HV1
                go_wp2_with fail
                refine Calls.mono HSB.out ?_
                rintro e y3 ⟨rfl, qc, rfl⟩
                have HE3 := aside' (HE2.out.later (below_drewN (Below.refl _ _) qc))
                clear HE2 HSB
                generalize y2.drewN qc = Y3 at *
                by_cases hk5 : k2 < 500
                · have g6 : decide ((k2 : Int) < 500) = true := decide_eq_true (by omega)
                  by_cases hn5 : k < 5000
                  · have g7 : decide ((k : Int) < 5000) = true := decide_eq_true (by omega)
                    have HB3 := aside' HE3.out.end.cRest
                    go_wp2_with fail
                    refine Calls.mono HB3.out ?_
                    rintro e y4 ⟨u3, rfl, hv3, hb4⟩
                    obtain ⟨A4, L4, c4, rfl, HL4⟩ := own_form hv3
                    have hL4 := HL4.out
                    have hol := own_lt hv3
                    have hsz := HE3.out.BW
                    have hzl := HE3.out.zlt
                    have hbl := HE3.out.bs.lt
                    have HE4 := HE3.out.later hb4
                    subst hL4
                    have HKP := aside' (HE4.bs.keep (A := A4) (n := (restF zs S').length) (c := c4) (base2 := Y3.heap.size) (xs := restF zs S') (by omega) hsz hv3 (by omega) (fun j hj hz => by have := (hbl j hz).2; have := (hol j hj).1; omega))
                    have hXz : ¬ (Value.slice A4 (restF zs S').length c4).ownBlock = some z := fun h => by have := (hol z h).1; omega
                    have HE4 := aside' (And.intro HE4 hXz)
                    clear hv3 hb4 HB3 hol hbl HL4 hXz HE3
                    generalize (restF zs S').length = nb at *
                    go_wp2_with fail
                    refine Calls.mono HKP.out ?_
                    rintro e y5 ⟨⟨u5, rfl⟩, row', F', ns', hbs', hf', hz'⟩
                    have HFIN := aside' (show HdK w B z b d r zs (k2 + 1) y5 from ⟨S', row', _, F', ns', by simp only [List.length_append, List.length_singleton]; omega, HE4.out.1.kept hbs' hf' hz' HE4.out.2⟩)
                    clear hbs' hf' hz' HKP HE4
                    go_wp2
                    go_roundw
                    case rel => exact ⟨k2 + 1, by omega, by go_num, HFIN.out⟩
                    case measure => (simp [intOf]; omega)
                  · have g7 : decide ((k : Int) < 5000) = false := decide_eq_false (by omega)
                    go_wp2
                    go_roundw
                    case rel => exact ⟨k2 + 1, by omega, by go_num, S', row, ps, F, ns, by omega, HE3.out⟩
                    case measure => (simp [intOf]; omega)
                · have g6 : decide ((k2 : Int) < 500) = false := decide_eq_false (by omega)
                  go_wp2
                  go_roundw
                  case rel => exact ⟨k2 + 1, by omega, by go_num, S', row, ps, F, ns, by omega, HE3.out⟩
                  case measure => (simp [intOf]; omega)
              · have g6 : ((rm : Int) == 0) = false := by rw [beq_eq_false_iff_ne]; omega
                go_wp2
                go_roundw
                case rel => exact ⟨k2 + 1, by omega, by go_num, S', row, ps, F, ns, by omega, HE.out⟩
                case measure => (simp [intOf]; omega)
            · obtain rfl : k2 = m := by omega
              have g5 : decide ((k2 : Int) < (k2 : Int)) = false := decide_eq_false (by omega)
              have HE := aside' HKI.out.end
              have HB1 := aside' HE.out.cRest
              go_wp2_with fail
              refine Calls.mono HB1.out ?_
              rintro e y1 ⟨u1, rfl, hv1, hb1⟩
              have HE1 := aside' (And.intro (HE.out.later hb1) (HKI.out.later hb1))
              have HB2 := aside' HE1.out.1.rRest
              have HV1 := aside' hv1
              clear hv1 hb1 HB1 HE HKI
              go_wp2_with fail
              refine Calls.mono HB2.out ?_
              rintro e y2 ⟨u2, rfl, hv2, hb2⟩
              obtain ⟨A1, c1, rfl, _, R1⟩ := own_reads HV1.out
              obtain ⟨A3, c3, rfl, _, R2⟩ := own_reads hv2
              have HSB := aside' (same_bytes A1 A3 _ c1 _ c3 _ _ y2 (R1.below hb2) R2)
              rw [decide_eq_true rfl] at HSB
              have HE2 := aside' (HE1.out.2.later hb2)
              clear R1 R2 hv2 hb2 HB2 HE1 HV1
              go_wp2_with fail
              refine Calls.mono HSB.out ?_
              rintro e y3 ⟨rfl, qc, rfl⟩
              have HE3 := aside' (HE2.out.later (below_drewN (Below.refl _ _) qc))
              clear HE2 HSB
              generalize y2.drewN qc = Y3 at *
              have HA := aside' (HE3.out.bs.apart (by omega))
              go_wp2_with fail
              refine Calls.mono HA.out ?_
              rintro e y4 ⟨rfl, hfa⟩
              have HE4 := aside' (HE3.out.shut hfa)
              clear hfa HA HE3
              have HB1 := aside' HE4.out.cRest
              go_wp2_with fail
              refine Calls.mono HB1.out ?_
              rintro e y5 ⟨u1, rfl, hv1, hb1⟩
              have HE1 := aside' (HE4.out.later hb1)
              have HB2 := aside' HE1.out.rRest
              have HV1 := aside' hv1
              clear hv1 hb1 HB1 HE4
              go_wp2_with fail
              refine Calls.mono HB2.out ?_
              rintro e y6 ⟨u2, rfl, hv2, hb2⟩
              obtain ⟨A1, c1, rfl, _, R1⟩ := own_reads HV1.out
              obtain ⟨A3, c3, rfl, _, R2⟩ := own_reads hv2
              have HSB := aside' (same_bytes A1 A3 _ c1 _ c3 _ _ y6 (R1.below hb2) R2)
              rw [decide_eq_true rfl] at HSB
              have HE2 := aside' (HE1.out.later hb2)
              clear R1 R2 hv2 hb2 HB2 HE1 HV1
              go_wp2_with fail
              refine Calls.mono HSB.out ?_
              rintro e y7 ⟨rfl, qd, rfl⟩
              have HE3 := aside' (HE2.out.later (below_drewN (Below.refl _ _) qd))
              clear HE2 HSB
              generalize y6.drewN qd = Y7 at *
              have HZ1 := aside' HE3.out.zLeft
              have HZ2 := aside' HE3.out.zAt
              have HZ3 := aside' HE3.out.zRest
              go_wp2_with fail
              refine Calls.mono HZ1.out ?_
              rintro e y8 ⟨rfl, hw⟩
              have hw := hw.symm
              subst hw
              go_wp2_with fail
              refine Calls.mono HZ2.out ?_
              rintro e y9 ⟨rfl, hw⟩
              have hw := hw.symm
              subst hw
              go_wp2_with fail
              refine Calls.mono HZ3.out ?_
              rintro e y10 ⟨rfl, hw⟩
              have hw := hw.symm
              subst hw
              go_wp2
              go_ret
              exact ⟨rfl, HE3.out.bl⟩
end Go.Proofs.YtmoakgkoahjijaaGreatDoor
