/-
  Halves of numbers moved up and put together: plain.
-/
import Derived.Test.YtipeeacplhgihaaBits3
import Derived.Laws.Bits64b
set_option linter.unusedVariables false
set_option linter.unusedSimpArgs false
namespace Go.Proofs.Ytipeeacplhgihaa
open Go.RowKit PkMath

theorem p64 : (2 : Nat) ^ 64 = 18446744073709551616 := by decide
theorem half_bd (v : Nat) (h : v < 2 ^ 128) : (0 ≤ hiOf v ∧ hiOf v ≤ 18446744073709551615) ∧ (0 ≤ loOf v ∧ loOf v ≤ 18446744073709551615) := (cut_same v 128 h (by decide)).2
/-- Moved up by less than 64. -/
theorem up_small (v n m : Nat) (h1 : 1 ≤ n) (hn : n + m = 64) (hm : 1 ≤ m) (hv : v * 2 ^ n < 2 ^ 128) :
    bits .or .u64 (IntKind.u64.wrap (hiOf v * 2 ^ n)) (loOf v / 2 ^ m) = hiOf (v * 2 ^ n) ∧ IntKind.u64.wrap (loOf v * 2 ^ n) = loOf (v * 2 ^ n) := by
  obtain ⟨H, hH⟩ : ∃ H, H = v / 18446744073709551616 := ⟨_, rfl⟩
  obtain ⟨L, hL⟩ : ∃ L, L = v % 18446744073709551616 := ⟨_, rfl⟩
  have hvv : v = H * 18446744073709551616 + L := by omega
  have hL2 : L < 18446744073709551616 := by omega
  have e64 : 2 ^ n * 2 ^ m = 18446744073709551616 := by rw [← Nat.pow_add, hn, p64]
  have hpn := Nat.two_pow_pos n
  have hpm := Nat.two_pow_pos m
  obtain ⟨a, ha⟩ : ∃ a, a = L / 2 ^ m := ⟨_, rfl⟩
  obtain ⟨b, hb⟩ : ∃ b, b = L % 2 ^ m := ⟨_, rfl⟩
  have hLab : L = a * 2 ^ m + b := by rw [ha, hb, Nat.mul_comm]; exact (Nat.div_add_mod L (2 ^ m)).symm
  have hbm : b < 2 ^ m := by rw [hb]; exact Nat.mod_lt _ hpm
  have han : a < 2 ^ n := by
    rw [ha, Nat.div_lt_iff_lt_mul hpm, e64]; exact hL2
  have hLn : L * 2 ^ n = a * 18446744073709551616 + b * 2 ^ n := by
    rw [hLab, Nat.add_mul, Nat.mul_assoc, Nat.mul_comm (2 ^ m), e64]
  have hbn : b * 2 ^ n < 18446744073709551616 := by
    rw [← e64, Nat.mul_comm (2 ^ n)]; exact Nat.mul_lt_mul_of_pos_right hbm hpn
  have hvn : v * 2 ^ n = (H * 2 ^ n + a) * 18446744073709551616 + b * 2 ^ n := by
    rw [hvv, Nat.add_mul, hLn, Nat.add_mul, Nat.mul_right_comm H]
    omega
  have hHn : H * 2 ^ n + a < 18446744073709551616 := by
    have h128 : (2 : Nat) ^ 128 = 340282366920938463463374607431768211456 := by decide
    rw [hvn, h128] at hv
    generalize H * 2 ^ n + a = y at *
    omega
  have ehi : hiOf (v * 2 ^ n) = ((H * 2 ^ n + a : Nat) : Int) := by unfold hiOf; rw [hvn]; congr 1; omega
  have elo : loOf (v * 2 ^ n) = ((b * 2 ^ n : Nat) : Int) := by unfold loOf; rw [hvn]; congr 1; omega
  have hp : (2 : Int) ^ n = ((2 ^ n : Nat) : Int) := by simp
  have hq : (2 : Int) ^ m = ((2 ^ m : Nat) : Int) := by simp
  have e1 : hiOf v = (H : Int) := by unfold hiOf; rw [hH]
  have e2 : loOf v = (L : Int) := by unfold loOf; rw [hL]
  rw [ehi, elo, e1, e2, hp, hq]
  have e3 : (L : Int) / ((2 ^ m : Nat) : Int) = (a : Int) := by rw [ha]; exact (Int.natCast_ediv L (2 ^ m)).symm
  have e4 : (H : Int) * ((2 ^ n : Nat) : Int) = ((H * 2 ^ n : Nat) : Int) := by push_cast; rfl
  have e5 : (L : Int) * ((2 ^ n : Nat) : Int) = ((L * 2 ^ n : Nat) : Int) := by push_cast; rfl
  rw [e3, e4, e5, IntKind.wrap_u64, IntKind.wrap_u64, hLn]
  have hmod : (H * 2 ^ n) % 2 ^ n = 0 := Nat.mul_mod_left _ _
  generalize H * 2 ^ n = x at *
  constructor
  · rw [show ((x : Nat) : Int) % 18446744073709551616 = (x : Int) by omega]
    have hx : ((x : Nat) : Int) % 2 ^ n = 0 := by rw [hp]; exact_mod_cast hmod
    have := bits_join .u64 64 (by decide) wraps_u64 n (x : Int) (a : Int) (by omega) hx (by omega) (by omega) (by rw [hp]; exact_mod_cast han) (by omega)
    rw [this]; push_cast; rfl
  · omega
/-- Moved up by 64 or more. -/
theorem up_great (v k : Nat) (hv : v * 2 ^ (k + 64) < 2 ^ 128) : IntKind.u64.wrap (loOf v * 2 ^ k) = hiOf (v * 2 ^ (k + 64)) ∧ loOf (v * 2 ^ (k + 64)) = 0 := by
  have h128 : (2 : Nat) ^ 128 = 340282366920938463463374607431768211456 := by decide
  rw [Nat.pow_add, p64, ← Nat.mul_assoc] at hv ⊢
  have hpk := Nat.two_pow_pos k
  have hvk : v * 2 ^ k < 18446744073709551616 := by
    rw [h128] at hv
    generalize v * 2 ^ k = y at *
    omega
  have hvs : v ≤ v * 2 ^ k := Nat.le_mul_of_pos_right _ hpk
  have hp : (2 : Int) ^ k = ((2 ^ k : Nat) : Int) := by simp
  have e2 : loOf v = (v : Int) := by unfold loOf; rw [Nat.mod_eq_of_lt (by omega)]
  have e5 : (v : Int) * ((2 ^ k : Nat) : Int) = ((v * 2 ^ k : Nat) : Int) := by push_cast; rfl
  rw [e2, hp, e5, IntKind.wrap_u64]
  unfold hiOf loOf
  generalize v * 2 ^ k = x at *
  constructor
  · omega
  · omega
/-- Put together. -/
theorem or_halves (x y n : Nat) (hy : y < 2 ^ n) (h : x * 2 ^ n + y < 2 ^ 128) :
    bits .or .u64 (hiOf (x * 2 ^ n)) (hiOf y) = hiOf (x * 2 ^ n + y) ∧ bits .or .u64 (loOf (x * 2 ^ n)) (loOf y) = loOf (x * 2 ^ n + y) := by
  have h128 : (2 : Nat) ^ 128 = 340282366920938463463374607431768211456 := by decide
  have e : x * 2 ^ n + y = x * 2 ^ n ||| y := by
    have := Nat.shiftLeft_add_eq_or_of_lt hy x
    rwa [Nat.shiftLeft_eq] at this
  rw [e]
  rw [e] at h
  generalize hz : x * 2 ^ n = z at *
  have hzl : z < 2 ^ 128 := by
    have : z ≤ z ||| y := Nat.left_le_or
    omega
  have hyl : y < 2 ^ 128 := by
    have : y ≤ z ||| y := Nat.right_le_or
    omega
  rw [h128] at hzl hyl
  unfold hiOf loOf
  rw [bits_or_u64_nat _ _ (by omega) (by omega), bits_or_u64_nat _ _ (by omega) (by omega)]
  rw [← p64]
  constructor
  · rw [← Nat.shiftRight_eq_div_pow, ← Nat.shiftRight_eq_div_pow, ← Nat.shiftRight_eq_div_pow, Nat.shiftRight_or_distrib]
  · rw [Nat.or_mod_two_pow]
end Go.Proofs.Ytipeeacplhgihaa
