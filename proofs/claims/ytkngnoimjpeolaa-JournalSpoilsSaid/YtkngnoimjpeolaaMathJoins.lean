/-
  The plain law: sums of lists that are taken one against another bit by bit.
-/
import Derived.Test.YtkngnoimjpeolaaMathTurn
set_option linter.unusedVariables false
set_option linter.unusedSimpArgs false
namespace Go.Proofs.Ytkngnoimjpeolaa
open Go.RowKit SumsMath

/-- One against another, bit by bit. -/
def X (a b : Int) : Int := ((a.toNat ^^^ b.toNat : Nat) : Int)
theorem X_nat (a b : Nat) : X (a : Int) (b : Int) = ((a ^^^ b : Nat) : Int) := rfl
theorem xor_any_kind (k : IntKind) (j : Nat) (hj : j ≤ k.bits) (hk : ∀ n : Int, 0 ≤ n → n < 2 ^ j → k.wrap n = n) (a b : Int) (ha0 : 0 ≤ a) (ha : a < 2 ^ j) (hb0 : 0 ≤ b) (hb : b < 2 ^ j) : bits .xor k a b = X a b := by
  obtain ⟨x, rfl⟩ := Int.eq_ofNat_of_zero_le ha0
  obtain ⟨y, rfl⟩ := Int.eq_ofNat_of_zero_le hb0
  have hx : x < 2 ^ j := by exact_mod_cast ha
  have hy : y < 2 ^ j := by exact_mod_cast hb
  have hx' : x % 2 ^ k.bits = x := Nat.mod_eq_of_lt (Nat.lt_of_lt_of_le hx (Nat.pow_le_pow_right (by decide) hj))
  have hy' : y % 2 ^ k.bits = y := Nat.mod_eq_of_lt (Nat.lt_of_lt_of_le hy (Nat.pow_le_pow_right (by decide) hj))
  rw [X_nat]
  simp only [bits, BitVec.ofInt_natCast, BitVec.toNat_xor, BitVec.toNat_ofNat, hx', hy']
  exact hk _ (Int.natCast_nonneg _) (by exact_mod_cast Nat.xor_lt_two_pow hx hy)
theorem X_u8 (a b : Int) (ha : 0 ≤ a ∧ a ≤ 255) (hb : 0 ≤ b ∧ b ≤ 255) : bits .xor .u8 a b = X a b := xor_any_kind .u8 8 (by decide) wraps_u8 a b ha.1 (by omega) hb.1 (by omega)
theorem X_u32 (a b : Int) (ha : 0 ≤ a ∧ a ≤ 4294967295) (hb : 0 ≤ b ∧ b ≤ 4294967295) : bits .xor .u32 a b = X a b := xor_any_kind .u32 32 (by decide) wraps_u32 a b ha.1 (by omega) hb.1 (by omega)
theorem X_u64 (a b : Int) (ha : 0 ≤ a ∧ a ≤ 4294967295) (hb : 0 ≤ b ∧ b ≤ 4294967295) : bits .xor .u64 a b = X a b := xor_any_kind .u64 64 (by decide) wraps_u64 a b ha.1 (by omega) hb.1 (by omega)
theorem X_lt (n : Nat) (a b : Int) (ha : 0 ≤ a ∧ a < ((2 ^ n : Nat) : Int)) (hb : 0 ≤ b ∧ b < ((2 ^ n : Nat) : Int)) : 0 ≤ X a b ∧ X a b < ((2 ^ n : Nat) : Int) := by
  obtain ⟨x, rfl⟩ := Int.eq_ofNat_of_zero_le ha.1
  obtain ⟨y, rfl⟩ := Int.eq_ofNat_of_zero_le hb.1
  rw [X_nat]
  have := Nat.xor_lt_two_pow (n := n) (x := x) (y := y) (by omega) (by omega)
  exact ⟨by omega, by exact_mod_cast this⟩
theorem X_8 (a b : Int) (ha : 0 ≤ a ∧ a ≤ 255) (hb : 0 ≤ b ∧ b ≤ 255) : 0 ≤ X a b ∧ X a b ≤ 255 := by
  have := X_lt 8 a b ⟨ha.1, by show a < 256; omega⟩ ⟨hb.1, by show b < 256; omega⟩
  have e : ((2 ^ 8 : Nat) : Int) = 256 := by decide
  rw [e] at this; omega
theorem X_32 (a b : Int) (ha : 0 ≤ a ∧ a ≤ 4294967295) (hb : 0 ≤ b ∧ b ≤ 4294967295) : 0 ≤ X a b ∧ X a b ≤ 4294967295 := by
  have e : ((2 ^ 32 : Nat) : Int) = 4294967296 := by decide
  have := X_lt 32 a b ⟨ha.1, by rw [e]; omega⟩ ⟨hb.1, by rw [e]; omega⟩
  rw [e] at this; omega
theorem B32_xor (a b : BitVec 32) : B32 (a ^^^ b) = X (B32 a) (B32 b) := by
  unfold B32
  rw [BitVec.toNat_xor, X_nat]
theorem ofInt_X (a b : Int) (ha : 0 ≤ a ∧ a ≤ 255) (hb : 0 ≤ b ∧ b ≤ 255) : BitVec.ofInt 32 (X a b) = BitVec.ofInt 32 a ^^^ BitVec.ofInt 32 b := by
  apply B32_inj
  have := X_8 a b ha hb
  rw [B32_xor, B32_ofInt _ ⟨this.1, by omega⟩, B32_ofInt _ ⟨ha.1, by omega⟩, B32_ofInt _ ⟨hb.1, by omega⟩]

def zipX (l m : List Int) : List Int := List.zipWith X l m
theorem zipX_getD (l m : List Int) (h : l.length = m.length) (j : Nat) : (zipX l m).getD j 0 = X (l.getD j 0) (m.getD j 0) := by
  unfold zipX
  rw [List.getD_eq_getElem?_getD, List.getD_eq_getElem?_getD, List.getD_eq_getElem?_getD, List.getElem?_zipWith]
  by_cases hj : j < l.length
  · rw [List.getElem?_eq_getElem hj, List.getElem?_eq_getElem (by omega : j < m.length)]; rfl
  · rw [List.getElem?_eq_none (by omega), List.getElem?_eq_none (by omega)]; rfl
theorem zipX_length (l m : List Int) (h : l.length = m.length) : (zipX l m).length = l.length := by simp [zipX, h]
theorem zipX_bytes (l m : List Int) (h : l.length = m.length) (hl : Bytes l) (hm : Bytes m) : Bytes (zipX l m) := fun j => by
  rw [zipX_getD l m h]; exact X_8 _ _ (hl j) (hm j)
theorem mem_bytes {l : List Int} (hl : Bytes l) {x : Int} (hx : x ∈ l) : 0 ≤ x ∧ x ≤ 255 := by
  obtain ⟨k, hk, rfl⟩ := List.mem_iff_getElem.1 hx
  have := hl k
  rwa [List.getD_eq_getElem?_getD, List.getElem?_eq_getElem hk] at this
theorem crc_zip (p a b : BitVec 32) (l m : List Int) (h : l.length = m.length) (hl : Bytes l) (hm : Bytes m) : crc p (a ^^^ b) (bvs (zipX l m)) = crc p a (bvs l) ^^^ crc p b (bvs m) := by
  have e1 : bvs (zipX l m) = ((bvs l).zip (bvs m)).map (fun x => x.1 ^^^ x.2) := by
    apply List.ext_getElem?
    intro j
    have ez : (bvs l).zip (bvs m) = List.zipWith Prod.mk (bvs l) (bvs m) := rfl
    rw [ez, List.getElem?_map, List.getElem?_zipWith]
    unfold bvs zipX
    rw [List.getElem?_map, List.getElem?_map, List.getElem?_map, List.getElem?_zipWith]
    by_cases hj : j < l.length
    · rw [List.getElem?_eq_getElem hj, List.getElem?_eq_getElem (by omega : j < m.length)]
      simp only [Option.map_some, Option.some.injEq]
      exact ofInt_X _ _ (mem_bytes hl (List.getElem_mem _)) (mem_bytes hm (List.getElem_mem _))
    · rw [List.getElem?_eq_none (by omega), List.getElem?_eq_none (by omega)]
      rfl
  have e2 : ((bvs l).zip (bvs m)).map (·.1) = bvs l := List.map_fst_zip (by simp [bvs, h])
  have e3 : ((bvs l).zip (bvs m)).map (·.2) = bvs m := List.map_snd_zip (by simp [bvs, h])
  rw [e1, crc_xor, e2, e3]
theorem X_comm4 (a b c d : Int) : X (X a b) (X c d) = X (X a c) (X b d) := by
  unfold X
  simp only [Int.toNat_natCast]
  congr 1
  rw [Nat.xor_assoc, ← Nat.xor_assoc b.toNat, Nat.xor_comm b.toNat, Nat.xor_assoc, ← Nat.xor_assoc]
theorem joins1 (x y z : List Int) (h1 : x.length = y.length) (h2 : x.length = z.length) (hx : Bytes x) (hy : Bytes y) (hz : Bytes z) : sumF 1 (zipX (zipX x y) z) = X (X (sumF 1 x) (sumF 1 y)) (sumF 1 z) := by
  show B32 (crc poly1 0#32 (bvs (zipX (zipX x y) z))) = X (X (B32 (crc poly1 0#32 (bvs x))) (B32 (crc poly1 0#32 (bvs y)))) (B32 (crc poly1 0#32 (bvs z)))
  have e := crc_zip poly1 0#32 0#32 (zipX x y) z (by rw [zipX_length _ _ h1, h2]) (zipX_bytes _ _ h1 hx hy) hz
  have e' := crc_zip poly1 0#32 0#32 x y h1 hx hy
  rw [BitVec.xor_self] at e e'
  rw [e, B32_xor, e', B32_xor]
theorem joins2 (x y z : List Int) (h1 : x.length = y.length) (h2 : x.length = z.length) (hx : Bytes x) (hy : Bytes y) (hz : Bytes z) : sumF 2 (zipX (zipX x y) z) = X (X (sumF 2 x) (sumF 2 y)) (sumF 2 z) := by
  have hn : ∀ l, sumF 2 l = B32 (~~~ (crc poly2 (BitVec.allOnes 32) (bvs l))) := fun l => by rw [not_B32]; rfl
  rw [hn, hn, hn, hn]
  have e := crc_zip poly2 0#32 (BitVec.allOnes 32) (zipX x y) z (by rw [zipX_length _ _ h1, h2]) (zipX_bytes _ _ h1 hx hy) hz
  have e' := crc_zip poly2 (BitVec.allOnes 32) (BitVec.allOnes 32) x y h1 hx hy
  rw [BitVec.xor_self] at e'
  rw [BitVec.zero_xor] at e
  rw [e, e', ← B32_xor, ← B32_xor]
  congr 1
  generalize crc poly2 (BitVec.allOnes 32) (bvs x) = p
  generalize crc poly2 (BitVec.allOnes 32) (bvs y) = q
  generalize crc poly2 (BitVec.allOnes 32) (bvs z) = r
  apply bv_ext
  intro i hi
  simp [hi]
theorem word_X (a b c d : Int) (ha : 0 ≤ a ∧ a ≤ 255) (hb : 0 ≤ b ∧ b ≤ 255) (hc : 0 ≤ c ∧ c ≤ 255) (hd : 0 ≤ d ∧ d ≤ 255) : 256 * X a b + X c d = X (256 * a + c) (256 * b + d) := by
  obtain ⟨x, rfl⟩ := Int.eq_ofNat_of_zero_le ha.1
  obtain ⟨y, rfl⟩ := Int.eq_ofNat_of_zero_le hb.1
  obtain ⟨u, rfl⟩ := Int.eq_ofNat_of_zero_le hc.1
  obtain ⟨v, rfl⟩ := Int.eq_ofNat_of_zero_le hd.1
  have e1 : (256 * (x : Int) + u) = ((256 * x + u : Nat) : Int) := by omega
  have e2 : (256 * (y : Int) + v) = ((256 * y + v : Nat) : Int) := by omega
  rw [e1, e2, X_nat, X_nat, X_nat]
  have key : 256 * (x ^^^ y) + (u ^^^ v) = (256 * x + u) ^^^ (256 * y + v) := by
    have h256 : ∀ p q : Nat, q < 256 → 256 * p + q = 2 ^ 8 * p + q := fun p q _ => rfl
    have hxor : u ^^^ v < 2 ^ 8 := Nat.xor_lt_two_pow (n := 8) (by omega) (by omega)
    apply Nat.eq_of_testBit_eq
    intro i
    rw [Nat.testBit_xor]
    show (2 ^ 8 * (x ^^^ y) + (u ^^^ v)).testBit i = ((2 ^ 8 * x + u).testBit i ^^ (2 ^ 8 * y + v).testBit i)
    rw [Nat.testBit_two_pow_mul_add _ hxor, Nat.testBit_two_pow_mul_add _ (show u < 2 ^ 8 by omega), Nat.testBit_two_pow_mul_add _ (show v < 2 ^ 8 by omega)]
    split
    · rw [Nat.testBit_xor]
    · rw [Nat.testBit_xor]
  omega
theorem joins4 (x y : List Int) (h : x.length = y.length) (hx : Bytes x) (hy : Bytes y) : sumF 4 (zipX x y) = X (sumF 4 x) (sumF 4 y) := by
  have hw : ∀ k, wordAt (zipX x y) k = X (wordAt x k) (wordAt y k) := by
    intro k
    unfold wordAt
    rw [zipX_getD x y h, zipX_getD x y h]
    exact word_X _ _ _ _ (hx _) (hy _) (hx _) (hy _)
  have hk : ∀ k, xorW (wordsTo (zipX x y) k) = X (xorW (wordsTo x k)) (xorW (wordsTo y k)) := by
    intro k
    induction k with
    | zero => exact (by decide : (0 : Int) = X 0 0)
    | succ k ih =>
      have b1 : ∀ (l : List Int), Bytes l → 0 ≤ xorW (wordsTo l k) ∧ xorW (wordsTo l k) ≤ 65535 := fun l hl => xorW_bd _ (fun z hz => by
        obtain ⟨j, _, rfl⟩ := List.mem_map.1 hz
        exact wordAt_bd l hl j)
      have p1 := b1 x hx
      have p2 := b1 y hy
      have q1 := wordAt_bd x hx k
      have q2 := wordAt_bd y hy k
      have p3 := X_32 _ _ ⟨p1.1, by omega⟩ ⟨p2.1, by omega⟩
      have q3 := X_32 _ _ ⟨q1.1, by omega⟩ ⟨q2.1, by omega⟩
      rw [wordsTo_succ, wordsTo_succ, wordsTo_succ, xorW_snoc, xorW_snoc, xorW_snoc, ih, hw, X_u32 _ _ p3 q3, X_u32 _ _ ⟨p1.1, by omega⟩ ⟨q1.1, by omega⟩, X_u32 _ _ ⟨p2.1, by omega⟩ ⟨q2.1, by omega⟩, X_comm4]
  show xorW (wordsOf (zipX x y)) = X (xorW (wordsOf x)) (xorW (wordsOf y))
  unfold wordsOf
  rw [zipX_length x y h, ← h, hk]
end Go.Proofs.Ytkngnoimjpeolaa
