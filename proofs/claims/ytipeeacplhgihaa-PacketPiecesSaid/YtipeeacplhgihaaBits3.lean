/-
  Numbers of bits, one behind the other: plain Lean about Num, bits and bytes.
-/
import Derived.Test.YtipeeacplhgihaaBits2
import Derived.Test.YtipeeacplhgihaaBitsRow
import Derived.Test.YtipeeacplhgihaaTakeOk
import Derived.Test.YtipeeacplhgihaaCheck
set_option linter.unusedVariables false
set_option linter.unusedSimpArgs false
namespace Go.Proofs.Ytipeeacplhgihaa
open Go.RowKit PkMath

/-- A number's value, and its bits. -/
def Num.val (x : Num) : Nat := x.Hi.toNat * 18446744073709551616 + x.Lo.toNat
def Num.bits (x : Num) : List Bool := bitsOfNum x.W.toNat x.val
def allBits (l : List Num) : List Bool := l.flatMap Num.bits
theorem Num.bits_length (x : Num) : x.bits.length = x.W.toNat := bitsOfNum_length _ _
theorem Num.halves {x : Num} (hw : x.wf) : hiOf x.val = x.Hi ∧ loOf x.val = x.Lo := by
  obtain ⟨_, h1, h2⟩ := hw
  unfold hiOf loOf Num.val
  constructor <;> omega
theorem Num.val_lt {x : Num} (hw : x.wf) (ho : x.ok) : x.val < 2 ^ x.W.toNat := by
  obtain ⟨W, hi, lo⟩ := x
  obtain ⟨_, h1, h2⟩ := hw
  obtain ⟨o1, o2, o3, o4⟩ := ho
  simp only at h1 h2 o1 o2 o3 o4
  unfold Num.val
  simp only
  obtain ⟨n, rfl⟩ := Int.eq_ofNat_of_zero_le (show 0 ≤ W by omega)
  simp only [Int.toNat_natCast] at *
  unfold cutHi at o3
  unfold cutLo at o4
  by_cases h : n < 64
  · rw [if_pos h] at o3 o4
    have hp : (2 : Int) ^ n = ((2 ^ n : Nat) : Int) := by simp
    have hpos := Nat.two_pow_pos n
    rw [hp] at o4
    have h4 : lo < ((2 ^ n : Nat) : Int) := by rw [← o4]; exact Int.emod_lt_of_pos _ (by omega)
    subst o3
    omega
  · rw [if_neg h] at o3 o4
    have hp : (2 : Int) ^ (n - 64) = ((2 ^ (n - 64) : Nat) : Int) := by simp
    have hpos := Nat.two_pow_pos (n - 64)
    rw [hp] at o3
    have h3 : hi < ((2 ^ (n - 64) : Nat) : Int) := by rw [← o3]; exact Int.emod_lt_of_pos _ (by omega)
    have e : 2 ^ n = 2 ^ (n - 64) * 18446744073709551616 := by
      rw [show (18446744073709551616 : Nat) = 2 ^ 64 by decide, ← Nat.pow_add]
      congr 1
      omega
    rw [e]
    have h5 : hi.toNat + 1 ≤ 2 ^ (n - 64) := by omega
    have h6 : (hi.toNat + 1) * 18446744073709551616 ≤ 2 ^ (n - 64) * 18446744073709551616 := Nat.mul_le_mul_right _ h5
    omega
theorem Num.of_val {x : Num} (hw : x.wf) (ho : x.ok) : numOf x.bits = x.val := numOf_bits_lt _ _ (x.val_lt hw ho)
/-- A number of w bits, out of its value. -/
def mkNum (w v : Nat) : Num := ⟨(w : Int), hiOf v, loOf v⟩
theorem mkNum_wf (w v : Nat) (hw : w ≤ 128) (hv : v < 2 ^ w) : (mkNum w v).wf := by
  obtain ⟨_, h1, h2⟩ := cut_same v w hv hw
  exact ⟨⟨by show -9223372036854775808 ≤ (w : Int); omega, by show (w : Int) ≤ _; omega⟩, h1, h2⟩
theorem mkNum_ok (w v : Nat) (h1 : 1 ≤ w) (hw : w ≤ 128) (hv : v < 2 ^ w) : (mkNum w v).ok := by
  obtain ⟨⟨h2, h3⟩, _⟩ := cut_same v w hv hw
  exact ⟨by show (1 : Int) ≤ (w : Int); omega, by show (w : Int) ≤ 128; omega, h2, h3⟩
theorem mkNum_val (w v : Nat) (h : v < 2 ^ 128) : (mkNum w v).val = v := by
  unfold Num.val mkNum hiOf loOf
  simp only
  omega
theorem mkNum_bits (w v : Nat) (hw : w ≤ 128) (hv : v < 2 ^ w) : (mkNum w v).bits = bitsOfNum w v := by
  unfold Num.bits
  rw [mkNum_val w v (Nat.lt_of_lt_of_le hv (Nat.pow_le_pow_right (by decide) hw))]
  rfl
/-- The number that a window is: its bits are the window. -/
theorem mkNum_win (l : List Bool) (a w : Nat) (hw : w ≤ 128) (h : a + w ≤ l.length) : (mkNum w (numOf (win l a w))).bits = win l a w := by
  have hl := win_length l a w h
  have hlt := numOf_lt (win l a w)
  rw [hl] at hlt
  rw [mkNum_bits _ _ hw hlt]
  have := bits_numOf (win l a w)
  rw [hl] at this
  exact this
theorem Num.mk_self {x : Num} (hw : x.wf) (ho : x.ok) : mkNum x.W.toNat x.val = x := by
  obtain ⟨h1, h2⟩ := Num.halves hw
  unfold mkNum
  rw [h1, h2]
  obtain ⟨o1, _⟩ := ho
  have e : ((x.W.toNat : Nat) : Int) = x.W := Int.toNat_of_nonneg (by omega)
  rw [e]

theorem allBits_nil : allBits [] = [] := rfl
theorem allBits_append (l m : List Num) : allBits (l ++ m) = allBits l ++ allBits m := List.flatMap_append ..
theorem allBits_one (x : Num) : allBits [x] = x.bits := by simp [allBits]
theorem takeN_succ (l : List Num) (k : Nat) (h : k < l.length) : l.take (k + 1) = l.take k ++ [l.getD k zeroNum] := by
  rw [List.take_succ_eq_append_getElem h]
  simp [List.getD_eq_getElem?_getD, List.getElem?_eq_getElem h]
theorem allBits_take_succ (l : List Num) (k : Nat) (h : k < l.length) : allBits (l.take (k + 1)) = allBits (l.take k) ++ (l.getD k zeroNum).bits := by
  rw [takeN_succ l k h, allBits_append, allBits_one]
theorem allBits_len_succ (l : List Num) (k : Nat) (h : k < l.length) : (allBits (l.take (k + 1))).length = (allBits (l.take k)).length + (l.getD k zeroNum).W.toNat := by
  rw [allBits_take_succ l k h, List.length_append, Num.bits_length]
theorem allBits_len_take (l : List Num) (k : Nat) : (allBits (l.take k)).length ≤ (allBits l).length := by
  conv => rhs; rw [← List.take_append_drop k l, allBits_append, List.length_append]
  exact Nat.le_add_right _ _
theorem allBits_split (l : List Num) (k : Nat) (h : k < l.length) : allBits l = allBits (l.take k) ++ ((l.getD k zeroNum).bits ++ allBits (l.drop (k + 1))) := by
  conv => lhs; rw [← List.take_append_drop (k + 1) l, allBits_append, allBits_take_succ l k h, List.append_assoc]
/-- The window of a number within all. -/
theorem allBits_win (l : List Num) (k : Nat) (h : k < l.length) : win (allBits l) (allBits (l.take k)).length (l.getD k zeroNum).W.toNat = (l.getD k zeroNum).bits := by
  conv => lhs; rw [allBits_split l k h]
  unfold win
  rw [List.drop_left, ← Num.bits_length, List.take_left]
/-- Two lists with the same bits have the same windows. -/
theorem win_congr {l m : List Bool} (a w : Nat) (hl : a + w ≤ l.length) (hm : a + w ≤ m.length) (h : ∀ q, q < a + w → l.getD q false = m.getD q false) : win l a w = win m a w := by
  apply list_ext_getD (by rw [win_length _ _ _ hl, win_length _ _ _ hm])
  intro i hi
  rw [win_length _ _ _ hl] at hi
  rw [win_getD _ _ _ _ hi, win_getD _ _ _ _ hi]
  exact h _ (by omega)
theorem win_pack (l : List Bool) (m a w : Nat) (hm : l.length ≤ 8 * m) (h : a + w ≤ l.length) : win (bitsL (pack l m)) a w = win l a w :=
  win_congr a w (by rw [bitsL_length, pack_length]; omega) h (fun q _ => bitsL_pack l m q hm)
theorem numOf_zeros (l : List Bool) (h : ∀ q, l.getD q false = false) : numOf l = 0 := by
  induction l with
  | nil => rfl
  | cons b l ih =>
    have hb : b = false := h 0
    subst hb
    rw [numOf_cons, ih (fun q => h (q + 1))]
    simp
/-- Behind all bits are noughts. -/
theorem win_pack_end (l : List Bool) (m w : Nat) (hm : l.length ≤ 8 * m) : numOf (win (bitsL (pack l m)) l.length w) = 0 := by
  apply numOf_zeros
  intro q
  by_cases hq : q < w
  · rw [win_getD _ _ _ _ hq, bitsL_pack l m _ hm, getD_past _ _ (by omega)]
  · apply getD_past
    unfold win
    simp
    omega
theorem pack_bytes (l : List Bool) (m : Nat) : ∀ j, 0 ≤ (pack l m).getD j 0 ∧ (pack l m).getD j 0 ≤ 255 := by
  intro j
  by_cases h : j < m
  · rw [pack_getD l m j h]
    have := packByte_lt l j
    omega
  · rw [List.getD_eq_getElem?_getD, List.getElem?_eq_none (by rw [pack_length]; omega)]
    exact ⟨by decide, by decide⟩
end Go.Proofs.Ytipeeacplhgihaa
