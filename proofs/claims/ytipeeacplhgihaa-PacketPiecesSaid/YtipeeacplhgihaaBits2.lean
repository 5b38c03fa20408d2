/-
  Bits of bytes and of numbers, in plain Lean: no program in sight.
-/
import Derived.Test.YtipeeacplhgihaaLib
set_option linter.unusedVariables false
set_option linter.unusedSimpArgs false
namespace Go.Proofs.Ytipeeacplhgihaa.PkMath

/-- The number that bits tell, the highest one first. -/
def numOf (l : List Bool) : Nat := l.foldl (fun v b => 2 * v + b.toNat) 0
theorem numOf_from (l : List Bool) : ∀ a, l.foldl (fun v b => 2 * v + b.toNat) a = a * 2 ^ l.length + numOf l := by
  induction l with
  | nil => intro a; simp [numOf]
  | cons b l ih =>
    intro a
    have e : numOf (b :: l) = b.toNat * 2 ^ l.length + numOf l := by
      unfold numOf
      rw [List.foldl_cons, ih]
      simp [numOf]
    rw [List.foldl_cons, ih, e, List.length_cons, Nat.pow_succ, Nat.add_mul, Nat.mul_assoc 2 a, Nat.mul_comm 2 (a * _), Nat.mul_assoc a, Nat.add_assoc]
theorem numOf_nil : numOf [] = 0 := rfl
theorem numOf_append (l m : List Bool) : numOf (l ++ m) = numOf l * 2 ^ m.length + numOf m := by
  show (l ++ m).foldl _ 0 = _
  rw [List.foldl_append]
  exact numOf_from m _
theorem numOf_lt (l : List Bool) : numOf l < 2 ^ l.length := by
  induction l with
  | nil => decide
  | cons b l ih =>
    have := numOf_append [b] l
    rw [List.singleton_append] at this
    rw [this, List.length_cons, Nat.pow_succ]
    have hb : numOf [b] ≤ 1 := by cases b <;> decide
    have : numOf [b] * 2 ^ l.length ≤ 1 * 2 ^ l.length := Nat.mul_le_mul_right _ hb
    omega
/-- The w bits of a number, the highest one first. -/
def bitsOfNum (w v : Nat) : List Bool := (List.range w).map fun i => v.testBit (w - 1 - i)
theorem bitsOfNum_length (w v : Nat) : (bitsOfNum w v).length = w := by simp [bitsOfNum]
theorem bitsOfNum_zero (v : Nat) : bitsOfNum 0 v = [] := rfl
theorem bitsOfNum_succ (w v : Nat) : bitsOfNum (w + 1) v = bitsOfNum w (v / 2) ++ [v.testBit 0] := by
  unfold bitsOfNum
  rw [List.range_succ, List.map_append]
  congr 1
  · apply List.map_congr_left
    intro i hi
    have := List.mem_range.1 hi
    rw [← Nat.testBit_succ]
    congr 1
    omega
  · simp
theorem bitsOfNum_cons (w v : Nat) : bitsOfNum (w + 1) v = v.testBit w :: bitsOfNum w v := by
  unfold bitsOfNum
  rw [List.range_succ_eq_map, List.map_cons, List.map_map]
  congr 1
  apply List.map_congr_left
  intro i hi
  show v.testBit (w + 1 - 1 - (i + 1)) = v.testBit (w - 1 - i)
  congr 1
  omega
theorem numOf_bits (w : Nat) : ∀ v, numOf (bitsOfNum w v) = v % 2 ^ w := by
  induction w with
  | zero => intro v; rw [bitsOfNum_zero]; simp [numOf, Nat.mod_one]
  | succ w ih =>
    intro v
    rw [bitsOfNum_succ, numOf_append, ih]
    have hb : numOf [v.testBit 0] = v % 2 := by
      rw [Nat.testBit_zero]
      by_cases h : v % 2 = 1
      · rw [h]; decide
      · have : v % 2 = 0 := by omega
        rw [this]; decide
    rw [hb]
    show v / 2 % 2 ^ w * 2 ^ 1 + v % 2 = v % 2 ^ (w + 1)
    rw [show (2 : Nat) ^ (w + 1) = 2 * 2 ^ w by rw [Nat.pow_succ, Nat.mul_comm], Nat.mod_mul, show (2 : Nat) ^ 1 = 2 from rfl]
    omega
theorem numOf_bits_lt (w v : Nat) (h : v < 2 ^ w) : numOf (bitsOfNum w v) = v := by rw [numOf_bits, Nat.mod_eq_of_lt h]
theorem numOf_cons (b : Bool) (l : List Bool) : numOf (b :: l) = 2 ^ l.length * b.toNat + numOf l := by
  have := numOf_append [b] l
  rw [List.singleton_append] at this
  rw [this, Nat.mul_comm]
  cases b <;> rfl
theorem bitsOfNum_getD (w v i : Nat) (h : i < w) : (bitsOfNum w v).getD i false = v.testBit (w - 1 - i) := by
  unfold bitsOfNum
  rw [List.getD_eq_getElem?_getD, List.getElem?_map, List.getElem?_range h]
  rfl
theorem bits_numOf : ∀ (l : List Bool), bitsOfNum l.length (numOf l) = l := by
  intro l
  induction l with
  | nil => rfl
  | cons b l ih =>
    have hN := numOf_lt l
    rw [List.length_cons, bitsOfNum_cons, numOf_cons]
    congr 1
    · rw [Nat.testBit_two_pow_mul_add _ hN, if_neg (by omega), Nat.sub_self]
      cases b <;> rfl
    · conv => rhs; rw [← ih]
      unfold bitsOfNum
      apply List.map_congr_left
      intro i hi
      have hi := List.mem_range.1 hi
      rw [Nat.testBit_two_pow_mul_add _ hN, if_pos (by omega)]

/-- The bits of bytes. -/
def byteBits (x : Int) : List Bool := bitsOfNum 8 x.toNat
def bitsL (zs : List Int) : List Bool := zs.flatMap byteBits
theorem byteBits_length (x : Int) : (byteBits x).length = 8 := bitsOfNum_length 8 _
theorem bitsL_length (zs : List Int) : (bitsL zs).length = 8 * zs.length := by
  induction zs with
  | nil => rfl
  | cons x zs ih => unfold bitsL at *; rw [List.flatMap_cons, List.length_append, ih, byteBits_length, List.length_cons]; omega
theorem bitsL_getD (zs : List Int) : ∀ q, (bitsL zs).getD q false = if q < 8 * zs.length then (zs.getD (q / 8) 0).toNat.testBit (7 - q % 8) else false := by
  induction zs with
  | nil => intro q; simp [bitsL]
  | cons x zs ih =>
    intro q
    unfold bitsL at *
    rw [List.flatMap_cons, List.getD_eq_getElem?_getD]
    by_cases hq : q < 8
    · rw [List.getElem?_append_left (by rw [byteBits_length]; exact hq), if_pos (by simp; omega)]
      have e1 : q / 8 = 0 := by omega
      have e2 : q % 8 = q := by omega
      rw [e1, e2]
      unfold byteBits bitsOfNum
      rw [List.getElem?_map, List.getElem?_range hq]
      show x.toNat.testBit (8 - 1 - q) = _
      simp
    · rw [List.getElem?_append_right (by rw [byteBits_length]; omega), byteBits_length, ← List.getD_eq_getElem?_getD, ih (q - 8)]
      have e1 : q / 8 = (q - 8) / 8 + 1 := by omega
      have e2 : q % 8 = (q - 8) % 8 := by omega
      by_cases h1 : q - 8 < 8 * zs.length
      · rw [if_pos h1, if_pos (by simp; omega), e1, e2, List.getD_cons_succ]
      · rw [if_neg h1, if_neg (by simp; omega)]

/-- A window of bits. -/
def win (l : List Bool) (at_ w : Nat) : List Bool := (l.drop at_).take w
theorem win_length (l : List Bool) (at_ w : Nat) (h : at_ + w ≤ l.length) : (win l at_ w).length = w := by unfold win; simp; omega
theorem win_add (l : List Bool) (at_ a k : Nat) : win l at_ (a + k) = win l at_ a ++ win l (at_ + a) k := by
  unfold win
  rw [List.take_add, List.drop_drop]
theorem win_getD (l : List Bool) (at_ w i : Nat) (h : i < w) : (win l at_ w).getD i false = l.getD (at_ + i) false := by
  unfold win
  rw [List.getD_eq_getElem?_getD, List.getElem?_take, if_pos h, List.getElem?_drop, List.getD_eq_getElem?_getD]
theorem list_ext_getD {l m : List Bool} (hl : l.length = m.length) (h : ∀ i, i < l.length → l.getD i false = m.getD i false) : l = m := by
  apply List.ext_getElem hl
  intro i h1 h2
  have := h i h1
  rw [List.getD_eq_getElem?_getD, List.getD_eq_getElem?_getD, List.getElem?_eq_getElem h1, List.getElem?_eq_getElem h2] at this
  exact this
/-- Bits within one byte. -/
theorem win_byte (zs : List Int) (at_ k : Nat) (hk : at_ % 8 + k ≤ 8) (hat : at_ + k ≤ 8 * zs.length) (hk0 : 0 < k) : win (bitsL zs) at_ k = bitsOfNum k ((zs.getD (at_ / 8) 0).toNat / 2 ^ (8 - at_ % 8 - k)) := by
  apply list_ext_getD
  · rw [win_length _ _ _ (by rw [bitsL_length]; exact hat), bitsOfNum_length]
  · intro i hi
    rw [win_length _ _ _ (by rw [bitsL_length]; exact hat)] at hi
    rw [win_getD _ _ _ _ hi, bitsL_getD, if_pos (by omega)]
    rw [bitsOfNum_getD _ _ _ hi, Nat.testBit_div_two_pow]
    have e1 : (at_ + i) / 8 = at_ / 8 := by omega
    have e2 : 7 - (at_ + i) % 8 = k - 1 - i + (8 - at_ % 8 - k) := by omega
    rw [e1, e2]
theorem numOf_win_byte (zs : List Int) (at_ k : Nat) (hk : at_ % 8 + k ≤ 8) (hat : at_ + k ≤ 8 * zs.length) (hk0 : 0 < k) : numOf (win (bitsL zs) at_ k) = (zs.getD (at_ / 8) 0).toNat / 2 ^ (8 - at_ % 8 - k) % 2 ^ k := by
  rw [win_byte zs at_ k hk hat hk0, numOf_bits]

/-- Bits, packed as bytes. -/
def byteAt (l : List Bool) (j : Nat) : List Bool := (List.range 8).map fun r => l.getD (8 * j + r) false
theorem byteAt_length (l : List Bool) (j : Nat) : (byteAt l j).length = 8 := by simp [byteAt]
theorem byteAt_getD (l : List Bool) (j r : Nat) (h : r < 8) : (byteAt l j).getD r false = l.getD (8 * j + r) false := by
  unfold byteAt
  rw [List.getD_eq_getElem?_getD, List.getElem?_map, List.getElem?_range h]
  rfl
def packByte (l : List Bool) (j : Nat) : Nat := numOf (byteAt l j)
def pack (l : List Bool) (m : Nat) : List Int := (List.range m).map fun j => (packByte l j : Int)
theorem pack_length (l : List Bool) (m : Nat) : (pack l m).length = m := by simp [pack]
theorem pack_getD (l : List Bool) (m j : Nat) (h : j < m) : (pack l m).getD j 0 = (packByte l j : Int) := by
  unfold pack
  rw [List.getD_eq_getElem?_getD, List.getElem?_map, List.getElem?_range h]
  rfl
theorem packByte_lt (l : List Bool) (j : Nat) : packByte l j < 256 := by
  have h := numOf_lt (byteAt l j)
  rw [byteAt_length] at h
  exact h
theorem packByte_bits (l : List Bool) (j : Nat) : bitsOfNum 8 (packByte l j) = byteAt l j := by
  have h := bits_numOf (byteAt l j)
  rw [byteAt_length] at h
  exact h
theorem packByte_test (l : List Bool) (j r : Nat) (h : r < 8) : (packByte l j).testBit (7 - r) = l.getD (8 * j + r) false := by
  rw [← byteAt_getD l j r h, ← packByte_bits, bitsOfNum_getD _ _ _ h]
theorem bitsL_pack (l : List Bool) (m q : Nat) (hm : l.length ≤ 8 * m) : (bitsL (pack l m)).getD q false = l.getD q false := by
  rw [bitsL_getD, pack_length]
  by_cases hq : q < 8 * m
  · rw [if_pos hq, pack_getD _ _ _ (by omega), Int.toNat_natCast, packByte_test _ _ _ (by omega)]
    congr 1
    omega
  · rw [if_neg hq, List.getD_eq_getElem?_getD, List.getElem?_eq_none (by omega)]
    rfl
theorem pack_bitsL (zs : List Int) (h : ∀ j, 0 ≤ zs.getD j 0 ∧ zs.getD j 0 ≤ 255) : pack (bitsL zs) zs.length = zs := by
  apply List.ext_getElem (by rw [pack_length])
  intro j h1 h2
  have e : (pack (bitsL zs) zs.length).getD j 0 = zs.getD j 0 := by
    rw [pack_getD _ _ _ h2]
    have hx := h j
    have hb : packByte (bitsL zs) j = (zs.getD j 0).toNat := by
      have key : byteAt (bitsL zs) j = bitsOfNum 8 (zs.getD j 0).toNat := by
        apply list_ext_getD (by rw [byteAt_length, bitsOfNum_length])
        intro r hr
        rw [byteAt_length] at hr
        rw [byteAt_getD _ _ _ hr, bitsOfNum_getD _ _ _ hr, bitsL_getD, if_pos (by omega), show (8 * j + r) / 8 = j by omega, show (8 * j + r) % 8 = r by omega]
      unfold packByte
      rw [key, numOf_bits, Nat.mod_eq_of_lt (by omega)]
    rw [hb]
    omega
  rw [List.getD_eq_getElem?_getD, List.getD_eq_getElem?_getD, List.getElem?_eq_getElem h1, List.getElem?_eq_getElem h2] at e
  exact e
theorem getD_snoc (l : List Bool) (b : Bool) (q : Nat) : (l ++ [b]).getD q false = if q = l.length then b else l.getD q false := by
  rw [List.getD_eq_getElem?_getD]
  by_cases h1 : q < l.length
  · rw [List.getElem?_append_left h1, if_neg (by omega), List.getD_eq_getElem?_getD]
  · rw [List.getElem?_append_right (by omega)]
    by_cases h2 : q = l.length
    · rw [if_pos h2, h2]; simp
    · rw [if_neg h2, List.getD_eq_getElem?_getD, List.getElem?_eq_none (by omega : l.length ≤ q), List.getElem?_eq_none (by simp; omega)]
theorem getD_past (l : List Bool) (q : Nat) (h : l.length ≤ q) : l.getD q false = false := by
  rw [List.getD_eq_getElem?_getD, List.getElem?_eq_none h]; rfl
/-- A nought is nothing more. -/
theorem packByte_false (l : List Bool) (j : Nat) : packByte (l ++ [false]) j = packByte l j := by
  unfold packByte
  congr 1
  apply list_ext_getD (by rw [byteAt_length, byteAt_length])
  intro r hr
  rw [byteAt_length] at hr
  rw [byteAt_getD _ _ _ hr, byteAt_getD _ _ _ hr, getD_snoc]
  split
  · rename_i h; rw [h, getD_past _ _ (Nat.le_refl _)]
  · rfl
/-- A byte that the next bit is not in stays. -/
theorem packByte_other (l : List Bool) (b : Bool) (j : Nat) (hj : j ≠ l.length / 8) : packByte (l ++ [b]) j = packByte l j := by
  unfold packByte
  congr 1
  apply list_ext_getD (by rw [byteAt_length, byteAt_length])
  intro r hr
  rw [byteAt_length] at hr
  rw [byteAt_getD _ _ _ hr, byteAt_getD _ _ _ hr, getD_snoc, if_neg (by omega)]
/-- The byte that the next bit is in: the bit is or'ed to it. -/
theorem packByte_or (l : List Bool) : packByte (l ++ [true]) (l.length / 8) = packByte l (l.length / 8) ||| 2 ^ (7 - l.length % 8) := by
  apply Nat.eq_of_testBit_eq
  intro i
  rw [Nat.testBit_or, Nat.testBit_two_pow]
  by_cases hi : i < 8
  · have e : i = 7 - (7 - i) := by omega
    rw [e, packByte_test _ _ _ (by omega), packByte_test _ _ _ (by omega), getD_snoc]
    split
    · rename_i h
      rw [getD_past _ _ (by omega), decide_eq_true (by omega)]; rfl
    · rename_i h
      rw [decide_eq_false (by omega), Bool.or_false]
  · have h8 : 256 ≤ 2 ^ i := Nat.pow_le_pow_right (n := 2) (i := 8) (by decide) (by omega)
    have h1 : packByte (l ++ [true]) (l.length / 8) < 2 ^ i := Nat.lt_of_lt_of_le (packByte_lt _ _) h8
    have h2 : packByte l (l.length / 8) < 2 ^ i := Nat.lt_of_lt_of_le (packByte_lt _ _) h8
    rw [Nat.testBit_lt_two_pow h1, Nat.testBit_lt_two_pow h2, decide_eq_false (by omega)]
    rfl
end Go.Proofs.Ytipeeacplhgihaa.PkMath
