/-
  The contracts of journal's number, four and sum.
-/
import Derived.Test.YtoihcopggdmocaaGreatDoorSumAny
import Derived.Test.YtoihcopggdmocaaGreatDoorJMath
import Derived.Test.YtoihcopggdmocaaGreatDoorBookK
set_option linter.unusedVariables false
set_option linter.unusedSimpArgs false
namespace Go.Proofs.YtoihcopggdmocaaGreatDoor
open Go.RowKit SumsMath

theorem or_sum (a b : Nat) (k : Nat) (ha : a < 2 ^ k) (hb : b % 2 ^ k = 0) (hs : a + b < 4294967296) : bits .or .u32 (a : Int) (b : Int) = ((a + b : Nat) : Int) := by
  obtain ⟨c, rfl⟩ : ∃ c, b = 2 ^ k * c := ⟨b / 2 ^ k, by have := Nat.div_add_mod b (2 ^ k); omega⟩
  have e : a ||| 2 ^ k * c = a + 2 ^ k * c := by rw [Nat.or_comm, ← Nat.two_pow_add_eq_or_of_lt ha, Nat.add_comm]
  show IntKind.u32.wrap ((BitVec.ofInt 32 (a : Int) ||| BitVec.ofInt 32 ((2 ^ k * c : Nat) : Int)).toNat : Int) = _
  rw [BitVec.ofInt_natCast, BitVec.ofInt_natCast, BitVec.toNat_or, BitVec.toNat_ofNat, BitVec.toNat_ofNat, Nat.mod_eq_of_lt (by omega), Nat.mod_eq_of_lt (by omega), e, IntKind.wrap_u32]
  omega
theorem four_any (n : Int) (h0 : 0 ≤ n) (h1 : n ≤ 4294967295) (w : World) :
    Calls Tryz.prog 12 #[.int .u32 n] w fun e w' => e = .returned (.agg ((nums .u8 (JMath.le4 n)).toArray)) ∧ Below w.heap.size w w' := by
  go_enter Tryz.func12, Tryz.ntmps12
  go_wp2
  have e4 : n / 16777216 % 256 = n / 16777216 := by omega
  refine bodyPost_ret (results_cell_row rfl _ _ w.heap.size 65 _ (0, 0) _ rfl (heap_alloc_new _ _) Tryz.underlying65 rfl (by kernel_rfl)) rfl ?_
  exact ⟨by simp [nums, JMath.le4, e4], (Below.refl _ _).alloc (Nat.le_refl _) _⟩
theorem find32 : findF ⟨#[99, 114, 99, 51, 50]⟩ = 2 := by decide +kernel
theorem crc_any (A : Option Addr) (n c : Nat) (xs : List Int) (hn : n ≤ 1000000000000) (w : World) (hx : Bytes xs) (hR : Reads w .u8 A n xs) :
    Calls Tryz.prog 13 #[.slice A n c] w fun e w' => e = .returned (.int .u32 (sumF 2 xs)) ∧ Below w.heap.size w w' := by
  have HR := aside' (And.intro hx hR)
  have hbd := sumF_bd 2 xs hx
  have HF := aside' (find_any ⟨#[99, 114, 99, 51, 50]⟩ w)
  rw [find32] at HF
  clear hx hR
  go_enter Tryz.func13, Tryz.ntmps13
  go_wp2_with fail
  refine Calls.mono HF.out ?_
  rintro e w1 ⟨rfl, hb1⟩
  have HS := aside' (sum_any 2 A n c xs hn w1 HR.out.1 (HR.out.2.below hb1))
  have e1 : errF 2 = 0 := rfl
  rw [e1] at HS
  unfold bitsV at HS
  generalize widthF 2 = wd at *
  obtain ⟨sm, hsm⟩ : ∃ sm, sm = sumF 2 xs := ⟨_, rfl⟩
  rw [← hsm] at HS hbd
  have HSM := aside' hsm
  clear hsm
  have HB1 := aside' hb1
  clear hb1 e1
  go_wp2_with fail
  refine Calls.mono HS.out ?_
  rintro e w2 ⟨rfl, hb2⟩
  have HB2 := aside' hb2
  clear hb2
  go_wp2
  go_ret
  exact ⟨by rw [← HSM.out]; rfl, (HB1.out.trans (HB2.out.mono HB1.out.size)).alloc (Nat.le_trans HB1.out.size HB2.out.size) _⟩
end Go.Proofs.YtoihcopggdmocaaGreatDoor
