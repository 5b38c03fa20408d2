/-
  The document's journal: number, sum, four, Frame.
-/
import Derived.Test.YtdgilloblfbklaaGreatDoorFrame
import Derived.Test.YtdgilloblfbklaaGreatDoorRefSum
import Derived.Deep.DeepCutAuto
set_option linter.unusedVariables false
set_option linter.unusedSimpArgs false
namespace Go.Proofs.YtdgilloblfbklaaGreatDoor
open Go.RowKit SumsMath

theorem own_lit (w : World) (xs : List Int) (n : Nat) (hn : xs.length = n) (hm : n ≤ 9223372036854775807) (cs : Array Value) (hc : cs = (nums .u8 xs).toArray) : (w.alloc (.cells cs 5)).ownsRow w.heap.size 5 1 (.slice (some ⟨w.heap.size, 0, none⟩) n n) n (nums .u8 xs) := by
  subst hc
  exact ⟨by simp [nums, hn], .inr ⟨w.heap.size, n, _, rfl, Nat.le_refl _, heap_alloc_new w _, Nat.le_refl _, by simpa [maxLen] using hm, by simp [nums, hn], by rw [List.toList_toArray, List.take_of_length_le (by simp [nums, hn])]⟩⟩
theorem or_sum64 (a b : Nat) (k : Nat) (ha : a < 2 ^ k) (hb : b % 2 ^ k = 0) (hs : a + b < 4294967296) : bits .or .u64 (a : Int) (b : Int) = ((a + b : Nat) : Int) := by
  obtain ⟨c, rfl⟩ : ∃ c, b = 2 ^ k * c := ⟨b / 2 ^ k, by have := Nat.div_add_mod b (2 ^ k); omega⟩
  have e : a ||| 2 ^ k * c = a + 2 ^ k * c := by rw [Nat.or_comm, ← Nat.two_pow_add_eq_or_of_lt ha, Nat.add_comm]
  show IntKind.u64.wrap ((BitVec.ofInt 64 (a : Int) ||| BitVec.ofInt 64 ((2 ^ k * c : Nat) : Int)).toNat : Int) = _
  rw [BitVec.ofInt_natCast, BitVec.ofInt_natCast, BitVec.toNat_or, BitVec.toNat_ofNat, BitVec.toNat_ofNat, Nat.mod_eq_of_lt (by omega), Nat.mod_eq_of_lt (by omega), e, IntKind.wrap_u64]
  omega
set_option maxRecDepth 100000 in
set_option maxHeartbeats 800000 in
theorem rnumber_any (A : Option Addr) (n c : Nat) (xs : List Int) (w : World) (hx : Bytes xs) (hR : Reads w .u8 A n xs) (h4 : 4 ≤ n) :
    Calls Tryz.prog 13 #[.slice A n c] w fun e w' => e = .returned (.int .u64 (JMath.num4 xs)) ∧ ∃ q, w' = w.drewN q := by
  obtain ⟨b, off, rfl, hb, hcs⟩ := hR.plain (by omega)
  have c0 : w.cell? ⟨b, off, none⟩ = some (.int .u8 (xs.getD 0 0)) := hcs 0 (by omega)
  have c1 := hcs 1 (by omega)
  have c2 := hcs 2 (by omega)
  have c3 := hcs 3 (by omega)
  have b0 := hx 0
  have b1 := hx 1
  have b2 := hx 2
  have b3 := hx 3
  have HV : Aside (JMath.num4 xs = xs.getD 0 0 + 256 * xs.getD 1 0 + 65536 * xs.getD 2 0 + 16777216 * xs.getD 3 0) := rfl
  generalize JMath.num4 xs = v at *
  generalize xs.getD 0 0 = x0 at *
  generalize xs.getD 1 0 = x1 at *
  generalize xs.getD 2 0 = x2 at *
  generalize xs.getD 3 0 = x3 at *
  have i0 : (0 : Int) < (n : Int) := by omega
  have i1 : (1 : Int) < (n : Int) := by omega
  have i2 : (2 : Int) < (n : Int) := by omega
  have i3 : (3 : Int) < (n : Int) := by omega
  have j0 : 0 < n := by omega
  have j1 : 1 < n := by omega
  have j2 : 2 < n := by omega
  have j3 : 3 < n := by omega
  clear hcs hR hx h4
  have HO := aside' (show bits .or .u64 (bits .or .u64 (bits .or .u64 x0 (x1 * 256)) (x2 * 65536)) (x3 * 16777216) = v from by
    rw [HV.out]
    obtain ⟨y0, rfl⟩ := Int.eq_ofNat_of_zero_le b0.1
    obtain ⟨y1, rfl⟩ := Int.eq_ofNat_of_zero_le b1.1
    obtain ⟨y2, rfl⟩ := Int.eq_ofNat_of_zero_le b2.1
    obtain ⟨y3, rfl⟩ := Int.eq_ofNat_of_zero_le b3.1
    have e1 := or_sum64 y0 (y1 * 256) 8 (by omega) (by omega) (by omega)
    have e2 := or_sum64 (y0 + y1 * 256) (y2 * 65536) 16 (by omega) (by omega) (by omega)
    have e3 := or_sum64 (y0 + y1 * 256 + y2 * 65536) (y3 * 16777216) 24 (by omega) (by omega) (by omega)
    simp only [Int.natCast_mul, Int.cast_ofNat_Int, Int.natCast_add] at e1 e2 e3 ⊢
    rw [e1, e2, e3]
    omega)
  go_enter Tryz.func13, Tryz.ntmps13
  go_wp2_with fail
  go_quiet (fail)
  go_wp2_with fail
  go_ret
  exact ⟨by rw [HO.out]; rfl, _, rfl⟩
theorem rsum_any (A : Option Addr) (n c : Nat) (xs : List Int) (hn : n ≤ 1000000000000) (w : World) (hx : Bytes xs) (hR : Reads w .u8 A n xs) :
    Calls Tryz.prog 14 #[.slice A n c] w fun e w' => e = .returned (.int .u64 (sumF 2 xs)) ∧ Below w.heap.size w w' := by
  have hbd := sumF_bd 2 xs hx
  have HS := aside' (refSum_any 2 A n c xs hn w hx hR)
  have e1 : errF 2 = 0 := rfl
  rw [e1] at HS
  unfold bitsV at HS
  generalize widthF 2 = wd at *
  obtain ⟨sm, hsm⟩ : ∃ sm, sm = sumF 2 xs := ⟨_, rfl⟩
  rw [← hsm] at HS hbd
  have HSM := aside' hsm
  clear hsm hx hR e1
  go_enter Tryz.func14, Tryz.ntmps14
  go_wp2_with fail
  refine Calls.mono HS.out ?_
  rintro e w2 ⟨rfl, hb2⟩
  have HB2 := aside' hb2
  clear hb2
  go_wp2
  go_ret
  exact ⟨by rw [← HSM.out]; rfl, HB2.out.alloc HB2.out.size _⟩
end Go.Proofs.YtdgilloblfbklaaGreatDoor
