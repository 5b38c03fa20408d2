/-
  The plain law: behind bytes that are followed by their own sum, the sum is none.
-/
import Derived.Test.YtjiljhijenbpbaaMathTurn
set_option linter.unusedVariables false
set_option linter.unusedSimpArgs false
namespace Go.Proofs.Ytjiljhijenbpbaa
open Go.RowKit SumsMath

theorem bvs_append (xs ys : List Int) : bvs (xs ++ ys) = bvs xs ++ bvs ys := by simp [bvs]
theorem crc_append (p c : BitVec 32) (l m : List (BitVec 32)) : crc p c (l ++ m) = crc p (crc p c l) m := by simp [crc, List.foldl_append]
/-- A number of 16 bits, its bytes behind it. -/
theorem crc_end (p c : BitVec 32) (hc : ∀ i, 16 ≤ i → c.getLsbD i = false) : crc p c [BitVec.ofInt 32 (B32 c % 256), BitVec.ofInt 32 (B32 c / 256)] = 0#32 := by
  have h0 : BitVec.ofInt 32 (B32 c % 256) = c &&& 255#32 := by
    have h : B32 (c &&& 255#32) = B32 c % 256 := by
      unfold B32
      rw [BitVec.toNat_and]
      show ((c.toNat &&& (2 ^ 8 - 1) : Nat) : Int) = _
      rw [Nat.and_two_pow_sub_one_eq_mod]
      omega
    rw [← h, ofInt_B32]
  have h1 : BitVec.ofInt 32 (B32 c / 256) = c >>> 8 := by
    have h := B32_shr c 8
    have h' : B32 c / (256 : Int) = B32 (c >>> 8) := by simpa using h
    rw [h', ofInt_B32]
  rw [h0, h1]
  show stpn p 8 (stpn p 8 (c ^^^ (c &&& 255#32)) ^^^ (c >>> 8)) = 0#32
  have h2 : c ^^^ (c &&& 255#32) = (c >>> 8) <<< 8 := by
    apply bv_ext
    intro i hi
    rw [BitVec.getLsbD_xor, BitVec.getLsbD_and, mask255 i hi, BitVec.getLsbD_shiftLeft, BitVec.getLsbD_ushiftRight]
    by_cases h8 : i < 8
    · simp [h8]
    · simp [h8, hi]
      congr 1
      omega
  have h3 : stpn p 8 ((c >>> 8) <<< 8) = c >>> 8 := by
    rw [stpn_high p 8 _ (by intro i hi; rw [BitVec.getLsbD_shiftLeft]; simp [hi])]
    apply bv_ext
    intro i hi
    rw [BitVec.getLsbD_ushiftRight, BitVec.getLsbD_shiftLeft, BitVec.getLsbD_ushiftRight, BitVec.getLsbD_ushiftRight]
    by_cases h : 8 + i < 32
    · simp [h]
    · rw [hc (8 + i) (by omega)]
      simp [h]
  rw [h2, h3, BitVec.xor_self, stpn_zero]
theorem ends1 (zs : List Int) (hx : Bytes zs) : sumF 1 (zs ++ [sumF 1 zs % 256, sumF 1 zs / 256]) = 0 := by
  show B32 (crc poly1 0#32 (bvs (zs ++ [B32 (crc poly1 0#32 (bvs zs)) % 256, B32 (crc poly1 0#32 (bvs zs)) / 256]))) = 0
  rw [bvs_append, crc_append]
  show B32 (crc poly1 (crc poly1 0#32 (bvs zs)) [BitVec.ofInt 32 (B32 (crc poly1 0#32 (bvs zs)) % 256), BitVec.ofInt 32 (B32 (crc poly1 0#32 (bvs zs)) / 256)]) = 0
  rw [crc_end poly1 _ (crc_small poly1 poly1_small _ _ (fun i _ => by simp) (bvs_byte zs hx))]
  rfl
theorem words_end (zs : List Int) (hi lo : Int) (he : zs.length % 2 = 0) : wordsOf (zs ++ [hi, lo]) = wordsOf zs ++ [256 * hi + lo] := by
  have hl : ((zs ++ [hi, lo]).length + 1) / 2 = (zs.length + 1) / 2 + 1 := by simp; omega
  have hk : (zs.length + 1) / 2 = zs.length / 2 := by omega
  rw [wordsOf, hl, wordsTo_succ]
  have hg : ∀ j, (zs ++ [hi, lo]).getD j 0 = if j < zs.length then zs.getD j 0 else if j = zs.length then hi else if j = zs.length + 1 then lo else 0 := by
    intro j
    rw [List.getD_eq_getElem?_getD]
    by_cases h1 : j < zs.length
    · rw [if_pos h1, List.getElem?_append_left h1, List.getD_eq_getElem?_getD]
    · rw [if_neg h1, List.getElem?_append_right (by omega)]
      by_cases h2 : j = zs.length
      · rw [if_pos h2, h2]; simp
      · rw [if_neg h2]
        by_cases h3 : j = zs.length + 1
        · rw [if_pos h3, h3]; simp
        · rw [if_neg h3, List.getElem?_eq_none (by simp; omega)]; rfl
  congr 1
  · unfold wordsOf wordsTo
    apply List.map_congr_left
    intro j hj
    have hj := List.mem_range.1 hj
    unfold wordAt
    rw [hg, hg, if_pos (by omega), if_pos (by omega)]
  · unfold wordAt
    rw [hg, hg, if_neg (by omega), if_pos (by omega), if_neg (by omega), if_neg (by omega), if_pos (by omega)]
theorem ends3 (zs : List Int) (hx : Bytes zs) (he : zs.length % 2 = 0) : sumF 3 (zs ++ [sumF 3 zs / 256, sumF 3 zs % 256]) = 0 := by
  have hw := wordsOf_bd zs hx
  obtain ⟨p1, e1⟩ := csW_fold _ hw
  show 65535 - csW (wordsOf (zs ++ [(65535 - csW (wordsOf zs)) / 256, (65535 - csW (wordsOf zs)) % 256])) = 0
  rw [words_end _ _ _ he, csW_snoc]
  have e2 : 256 * ((65535 - csW (wordsOf zs)) / 256) + (65535 - csW (wordsOf zs)) % 256 = 65535 - csW (wordsOf zs) := by omega
  have hb := csW_bd (wordsOf zs)
  rw [e2, show csW (wordsOf zs) + (65535 - csW (wordsOf zs)) = 65535 by omega]
  rfl
theorem ends4 (zs : List Int) (hx : Bytes zs) (he : zs.length % 2 = 0) : sumF 4 (zs ++ [sumF 4 zs / 256, sumF 4 zs % 256]) = 0 := by
  show xorW (wordsOf (zs ++ [xorW (wordsOf zs) / 256, xorW (wordsOf zs) % 256])) = 0
  rw [words_end _ _ _ he, xorW_snoc]
  have hb := xorW_bd _ (wordsOf_bd zs hx)
  rw [show 256 * (xorW (wordsOf zs) / 256) + xorW (wordsOf zs) % 256 = xorW (wordsOf zs) by omega]
  generalize xorW (wordsOf zs) = x at *
  have h := bits_xor (BitVec.ofInt 32 x) (BitVec.ofInt 32 x)
  rw [B32_ofInt x ⟨hb.1, by omega⟩] at h
  rw [h, BitVec.xor_self]
  rfl
end Go.Proofs.Ytjiljhijenbpbaa
