/-
  The contracts of the CRCs' step and table.
-/
import Derived.Test.YtdgilloblfbklaaGreatDoorProg
import Derived.Test.YtdgilloblfbklaaGreatDoorLib
import Derived.Test.YtdgilloblfbklaaGreatDoorMath
import Derived.Laws.BitsLemmas
set_option linter.unusedVariables false
set_option linter.unusedSimpArgs false
namespace Go.Proofs.YtdgilloblfbklaaGreatDoor
open Go.RowKit SumsMath

/-- A number of 32 bits as Go's. -/
def B32 (c : BitVec 32) : Int := (c.toNat : Int)
theorem B32_bd (c : BitVec 32) : 0 ≤ B32 c ∧ B32 c ≤ 4294967295 := by
  unfold B32
  have := c.isLt
  omega
theorem B32_ofInt (x : Int) (h : 0 ≤ x ∧ x ≤ 4294967295) : B32 (BitVec.ofInt 32 x) = x := by
  obtain ⟨n, rfl⟩ := Int.eq_ofNat_of_zero_le h.1
  unfold B32
  rw [BitVec.ofInt_natCast, BitVec.toNat_ofNat, Nat.mod_eq_of_lt (by omega)]
theorem ofInt_B32 (c : BitVec 32) : BitVec.ofInt 32 (B32 c) = c := by
  unfold B32
  rw [BitVec.ofInt_natCast, BitVec.ofNat_toNat, BitVec.setWidth_eq]
theorem B32_inj {a b : BitVec 32} (h : B32 a = B32 b) : a = b := by rw [← ofInt_B32 a, ← ofInt_B32 b, h]
theorem wrap_B32 (c : BitVec 32) : IntKind.u32.wrap (c.toNat : Int) = B32 c := by
  rw [IntKind.wrap_u32]
  have := c.isLt
  unfold B32
  omega
theorem bits_xor (a b : BitVec 32) : bits .xor .u32 (B32 a) (B32 b) = B32 (a ^^^ b) := by
  show IntKind.u32.wrap ((BitVec.ofInt 32 (B32 a) ^^^ BitVec.ofInt 32 (B32 b)).toNat : Int) = _
  rw [ofInt_B32, ofInt_B32]
  exact wrap_B32 _
theorem bits_and (a b : BitVec 32) : bits .and .u32 (B32 a) (B32 b) = B32 (a &&& b) := by
  show IntKind.u32.wrap ((BitVec.ofInt 32 (B32 a) &&& BitVec.ofInt 32 (B32 b)).toNat : Int) = _
  rw [ofInt_B32, ofInt_B32]
  exact wrap_B32 _
theorem bits_or (a b : BitVec 32) : bits .or .u32 (B32 a) (B32 b) = B32 (a ||| b) := by
  show IntKind.u32.wrap ((BitVec.ofInt 32 (B32 a) ||| BitVec.ofInt 32 (B32 b)).toNat : Int) = _
  rw [ofInt_B32, ofInt_B32]
  exact wrap_B32 _
theorem B32_shr (a : BitVec 32) (n : Nat) : B32 a / ((2 ^ n : Nat) : Int) = B32 (a >>> n) := by
  unfold B32
  rw [BitVec.toNat_ushiftRight, Nat.shiftRight_eq_div_pow]
  rfl
theorem B32_one : B32 1#32 = 1 := rfl
theorem and_one (c : BitVec 32) : (bits .and .u32 (B32 c) 1 == 1) = c.getLsbD 0 := by
  rw [show (1 : Int) = B32 1#32 from rfl, bits_and]
  have h : c &&& 1#32 = bv1 (c.getLsbD 0) := by
    apply bv_ext
    intro i hi
    rw [BitVec.getLsbD_and, bv1_get]
    have : (1#32).getLsbD i = decide (i = 0) := by
      have : ∀ j : Fin 32, (1#32).getLsbD j.1 = decide (j.1 = 0) := by decide
      exact this ⟨i, hi⟩
    rw [this]
    by_cases h0 : i = 0
    · subst h0; rfl
    · simp [h0]
  rw [h]
  cases c.getLsbD 0 <;> rfl

theorem step_any (c poly : BitVec 32) (pb : Nat) (w : World) (hc : w.cell? ⟨pb, 0, none⟩ = some (.int .u32 (B32 poly))) :
    Calls Tryz.prog 193 #[.int .u32 (B32 c), .pointer (some ⟨pb, 0, none⟩)] w fun e w' => e = .returned (.int .u32 (B32 (stp poly c))) ∧ w = w' := by
  have hbd := B32_bd c
  have h1 := and_one c
  have e1 : B32 c / (2 : Int) = B32 (c >>> 1) := by have h := B32_shr c 1; simpa using h
  have hst : Aside (stp poly c = (c >>> 1) ^^^ (if c.getLsbD 0 then poly else 0#32)) := rfl
  have hx : Aside (bits .xor .u32 (B32 c / (2 : Int)) (B32 poly) = B32 ((c >>> 1) ^^^ poly)) := by rw [e1]; exact bits_xor _ _
  have HE : Aside (B32 c / (2 : Int) = B32 (c >>> 1)) := e1
  cases hb : c.getLsbD 0
  · rw [hb] at h1 hst
    clear hb e1
    go_enter Tryz.func193, Tryz.ntmps193
    go_wp2
    go_ret
    exact ⟨by rw [hst.out]; simp [HE.out], rfl⟩
  · rw [hb] at h1 hst
    clear hb e1
    go_enter Tryz.func193, Tryz.ntmps193
    go_wp2
    go_ret
    exact ⟨by rw [hst.out]; simp [hx.out], rfl⟩
end Go.Proofs.YtdgilloblfbklaaGreatDoor
