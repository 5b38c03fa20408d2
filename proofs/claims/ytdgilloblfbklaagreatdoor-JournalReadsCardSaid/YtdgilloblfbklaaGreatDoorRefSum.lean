/-
  The document's sums: crc, word, Sum.
-/
import Derived.Test.YtdgilloblfbklaaGreatDoorSumAny
import Derived.Test.YtdgilloblfbklaaGreatDoorRef1
set_option linter.unusedVariables false
set_option linter.unusedSimpArgs false
namespace Go.Proofs.YtdgilloblfbklaaGreatDoor
open Go.RowKit SumsMath

/-- The CRC of k bits of a byte. -/
def crcPart (p c x : BitVec 32) (k : Nat) : BitVec 32 := ((bits8 x).take k).foldl (fb p) c
theorem crcPart_0 (p c x : BitVec 32) : crcPart p c x 0 = c := rfl
theorem crcPart_succ (p c x : BitVec 32) (k : Nat) (hk : k < 8) : crcPart p c x (k + 1) = fb p (crcPart p c x k) (x.getLsbD k) := by
  unfold crcPart
  have hl : (bits8 x).length = 8 := rfl
  rw [List.take_succ_eq_append_getElem (by rw [hl]; exact hk), List.foldl_append]
  obtain rfl | rfl | rfl | rfl | rfl | rfl | rfl | rfl : k = 0 ∨ k = 1 ∨ k = 2 ∨ k = 3 ∨ k = 4 ∨ k = 5 ∨ k = 6 ∨ k = 7 := by omega
  all_goals rfl
theorem crcPart_8 (p c x : BitVec 32) (hx : ∀ i, 8 ≤ i → x.getLsbD i = false) : crcPart p c x 8 = stpn p 8 (c ^^^ x) := feed_byte p c x hx
theorem fb_eq (p c : BitVec 32) (b : Bool) : fb p c b = (c >>> 1) ^^^ (if (c.getLsbD 0 ^^ b) then p else 0#32) := by
  unfold fb stp
  have h1 : (c ^^^ bv1 b) >>> 1 = c >>> 1 := by
    apply bv_ext
    intro i hi
    rw [BitVec.getLsbD_ushiftRight, BitVec.getLsbD_ushiftRight, BitVec.getLsbD_xor, bv1_get]
    simp
  rw [h1, BitVec.getLsbD_xor, bv1_get]
  simp
theorem bit_test (c X : BitVec 32) (x : Int) (h : B32 X = x) (hx : 0 ≤ x ∧ x ≤ 255) (k : Nat) : (bits .and .u32 (bits .xor .u32 (B32 c) (x / 2 ^ k % 4294967296)) 1 == 1) = (c.getLsbD 0 ^^ X.getLsbD k) := by
  have hp : (2:Int) ^ k = ((2 ^ k : Nat) : Int) := by simp
  have h1 : x / ((2 ^ k : Nat) : Int) ≤ x := Int.ediv_le_self _ hx.1
  have h0 : 0 ≤ x / ((2 ^ k : Nat) : Int) := Int.ediv_nonneg hx.1 (Int.natCast_nonneg _)
  rw [hp, Int.emod_eq_of_lt h0 (by omega), ← h, B32_shr, bits_xor, and_one, BitVec.getLsbD_xor, BitVec.getLsbD_ushiftRight]
  simp

set_option maxHeartbeats 1600000 in
theorem refCrc_any (A : Option Addr) (n d : Nat) (xs : List Int) (poly c0 : BitVec 32) (w : World) (HR : Reads w .u8 A n xs) (hx : Bytes xs) :
    Calls Tryz.prog 174 #[.slice A n d, .int .u32 (B32 poly), .int .u32 (B32 c0)] w fun e w' => e = .returned (.int .u32 (B32 (crc poly c0 (bvs xs)))) ∧ w = w' := by
  have hn := HR.2.1
  have HA : Aside (Reads w .u8 A n xs ∧ Bytes xs) := ⟨HR, hx⟩
  clear HR hx
  go_enter Tryz.func174, Tryz.ntmps174
  go_wp2
  go_loop [7, 8] (fun c i => ∃ k : Nat, k ≤ n ∧ i = .int .i64 k ∧ c = .int .u32 (B32 (crc poly c0 (bvs (xs.take k))))) (fun _ i => n - (intOf i).toNat)
  case atStart => exact ⟨0, Nat.zero_le _, rfl, by simp [bvs, crc]⟩
  case round =>
    obtain ⟨k, hk, rfl, rfl⟩ := hrel
    by_cases hlt : k < n
    · obtain ⟨a, rfl, hca⟩ := HA.out.1.at_ (k : Int) (by omega) (by omega)
      have hbd := HA.out.2 k
      simp only [Int.toNat_natCast, rd] at hca
      have hsn : Aside (crc poly c0 (bvs (xs.take (k + 1))) = stpn poly 8 (crc poly c0 (bvs (xs.take k)) ^^^ BitVec.ofInt 32 (xs.getD k 0))) := by
        rw [bvs_take xs k (by rw [HA.out.1.1]; exact hlt)]
        exact crc_snoc _ _ _ _
      generalize hX : xs.getD k 0 = x at *
      generalize hC : crc poly c0 (bvs (xs.take k)) = c at *
      have HXB : Aside (B32 (BitVec.ofInt 32 x) = x) := B32_ofInt x ⟨hbd.1, by omega⟩
      have HX8 : Aside (crcPart poly c (BitVec.ofInt 32 x) 8 = crc poly c0 (bvs (xs.take (k + 1)))) := (crcPart_8 _ _ _ (byte_high x hbd)).trans hsn.out.symm
      generalize hX2 : BitVec.ofInt 32 x = X at *
      clear hX hC hsn hX2
      have hk0 : (0 : Int) ≤ (k : Int) := by omega
      have hk1 : (k : Int) < (n : Int) := by omega
      go_wp2
      go_loop [7, 9] (fun u v => ∃ j : Nat, j ≤ 8 ∧ v = .int .i64 j ∧ u = .int .u32 (B32 (crcPart poly c X j))) (fun _ v => 8 - (intOf v).toNat)
      case atStart => exact ⟨0, by omega, rfl, by rw [crcPart_0]⟩
      case round =>
        obtain ⟨j, hj, rfl, rfl⟩ := hrel
        by_cases hlt8 : j < 8
        · have hs := crcPart_succ poly c X j hlt8
          generalize crcPart poly c X j = e at *
          have ht := bit_test e X x HXB.out hbd j
          rw [fb_eq] at hs
          have hj0 : (0 : Int) ≤ (j : Int) := by omega
          have hj8 : (j : Int) < 8 := by omega
          have hsh : Aside ((B32 e : Int) / (2 : Int) = B32 (e >>> 1)) := by have := B32_shr e 1; simpa [Aside] using this
          have hbx := bits_xor (e >>> 1) poly
          cases hq : (e.getLsbD 0 ^^ X.getLsbD j) with
          | true =>
            rw [hq] at ht hs
            have HS : Aside (crcPart poly c X (j + 1) = e >>> 1 ^^^ poly) := by simpa [Aside] using hs
            have HB : Aside (bits .xor .u32 (B32 e / (2 : Int)) (B32 poly) = B32 (e >>> 1 ^^^ poly)) := by rw [hsh.out]; exact hbx
            clear hs hbx
            go_wp2
            go_round
            case rel => exact ⟨j + 1, by omega, by go_num, by rw [HS.out, HB.out]⟩
            case measure => simp [intOf]; omega
          | false =>
            rw [hq] at ht hs
            have HS : Aside (crcPart poly c X (j + 1) = e >>> 1) := by simpa [Aside] using hs
            clear hs hbx
            go_wp2
            go_round
            case rel => exact ⟨j + 1, by omega, by go_num, by rw [HS.out, hsh.out]⟩
            case measure => simp [intOf]; omega
        · obtain rfl : j = 8 := by omega
          have h8 := HX8
          go_wp2
          go_round
          case rel => exact ⟨k + 1, by omega, by go_num, by rw [h8.out]⟩
          case measure => simp [intOf]; omega
    · obtain rfl : n = k := by omega
      have hfin : Aside (xs.take n = xs) := List.take_of_length_le (by rw [HA.out.1.1]; exact Nat.le_refl _)
      go_wp2
      go_ret
      exact ⟨by rw [hfin.out]; rfl, rfl⟩

theorem refWord_any (A : Option Addr) (len d k : Nat) (zs : List Int) (w : World) (HR : Reads w .u8 A len zs) (hx : Bytes zs) (hk : 2 * k < len) (hlen : len ≤ 1000000000000) :
    Calls Tryz.prog 176 #[.slice A len d, .int .i64 (2 * (k : Int))] w fun e w' => e = .returned (.int .u32 (wordAt zs k)) ∧ w = w' := by
  obtain ⟨b, off, rfl, hbl, hcs⟩ := HR.plain (by omega)
  have hca := hcs (2 * k) hk
  have hb0 := hx (2 * k)
  have hb1 := hx (2 * k + 1)
  have hwd : Aside (wordAt zs k = 256 * zs.getD (2 * k) 0 + zs.getD (2 * k + 1) 0) := rfl
  have h0 : (0 : Int) ≤ 2 * (k : Int) := by omega
  have h1 : 2 * (k : Int) < (len : Int) := by omega
  by_cases hodd : 2 * k + 1 < len
  · have hcc := hcs (2 * k + 1) hodd
    have h2 : 2 * (k : Int) + 1 < (len : Int) := by omega
    generalize zs.getD (2 * k) 0 = x at *
    generalize zs.getD (2 * k + 1) 0 = y at *
    clear HR hcs
    go_enter Tryz.func176, Tryz.ntmps176
    go_wp2
    go_ret
    exact ⟨by rw [hwd.out]; go_num, rfl⟩
  · have hz : zs.getD (2 * k + 1) 0 = 0 := by
      have := HR.1
      rw [List.getD_eq_getElem?_getD, List.getElem?_eq_none (by omega)]; rfl
    have h2 : (len : Int) ≤ 2 * (k : Int) + 1 := by omega
    have HZ : Aside (zs.getD (2 * k + 1) 0 = 0) := hz
    clear HR hcs hz hb1
    generalize zs.getD (2 * k) 0 = x at *
    go_enter Tryz.func176, Tryz.ntmps176
    go_wp2
    go_ret
    exact ⟨by rw [hwd.out, HZ.out, Int.add_zero]; rfl, rfl⟩

theorem xorW_bd' (zs : List Int) (hx : Bytes zs) (k : Nat) : 0 ≤ xorW (wordsTo zs k) ∧ xorW (wordsTo zs k) ≤ 65535 := xorW_bd _ (fun x h => by
  obtain ⟨j, _, rfl⟩ := List.mem_map.1 h
  exact wordAt_bd zs hx j)

/-- The last part: the struct that is handed out. -/
theorem refSum_bad (n : Int) (hn : n < 1 ∨ 4 < n) (A : Option Addr) (len cap : Nat) (w : World) :
    Calls Tryz.prog 111 #[.int .i64 n, .slice A len cap] w fun e w' => e = .returned (.tuple #[bitsV 0 0 0, .int .i64 1]) ∧ Below w.heap.size w w' := by
  have e1 : decide (n = 1) = false := decide_eq_false (by omega)
  have e2 : decide (n = 2) = false := decide_eq_false (by omega)
  have e3 : decide (n = 3) = false := decide_eq_false (by omega)
  have e4 : decide (n = 4) = false := decide_eq_false (by omega)
  have hB := (Below.refl w.heap.size w).alloc (Nat.le_refl _) (.cells #[.int .i64 0, .int .u64 0, .int .u64 0] 74 (0,0))
  go_enter Tryz.func111, Tryz.ntmps111
  go_wp2
  exact bodyPost_ret (results_row_tmp rfl _ _ w.heap.size 74 _ (0,0) _ rfl (heap_alloc_new ..) Tryz.underlying74 rfl (by kernel_rfl)) rfl ⟨rfl, hB⟩

set_option maxHeartbeats 1600000 in
theorem refSum_1 (A : Option Addr) (len cap : Nat) (zs : List Int) (hlen : len ≤ 1000000000000) (w : World) (hx : Bytes zs) (hR : Reads w .u8 A len zs) :
    Calls Tryz.prog 111 #[.int .i64 1, .slice A len cap] w fun e w' => e = .returned (.tuple #[bitsV (widthF 1) 0 (sumF 1 zs), .int .i64 0]) ∧ Below w.heap.size w w' := by
  have hB := (Below.refl w.heap.size w).alloc (Nat.le_refl _) (.cells #[.int .i64 0, .int .u64 0, .int .u64 0] 74 (0,0))
  have hbd := sumF_bd 1 zs hx
  have hwx : IntKind.u64.wrap (sumF 1 zs) = sumF 1 zs := by rw [IntKind.wrap_u64]; omega
  have hR1 : Reads (w.alloc (.cells #[.int .i64 0, .int .u64 0, .int .u64 0] 74 (0,0))) .u8 A len zs := hR.below hB
  have hs2 : Aside (widthF 1 = 16) := rfl
  rw [hs2.out]
  have hc := refCrc_any A len cap zs poly1 0#32 _ hR1 hx
  rw [B32_poly1, B32_0] at hc
  have hs : Aside (sumF 1 zs = B32 (crc poly1 0#32 (bvs zs))) := rfl
  rw [← hs.out] at hc
  clear hs hR1 hR
  generalize sumF 1 zs = x at *
  go_enter Tryz.func111, Tryz.ntmps111
  go_wp2_with fail
  refine hc.mono ?_
  rintro e w' ⟨rfl, rfl⟩
  go_wp2_with fail
  refine (refWidth_any 1 _).mono ?_
  rintro e w' ⟨rfl, rfl⟩
  rw [hs2.out]
  go_wp2
  refine bodyPost_ret (results_row_tmp rfl _ _ w.heap.size 74 _ (0,0) _ rfl (heap_alloc_new ..) Tryz.underlying74 rfl (by kernel_rfl)) rfl ⟨rfl, (Below.refl _ _).alloc (Nat.le_refl _) _⟩

set_option maxHeartbeats 1600000 in
theorem refSum_2 (A : Option Addr) (len cap : Nat) (zs : List Int) (hlen : len ≤ 1000000000000) (w : World) (hx : Bytes zs) (hR : Reads w .u8 A len zs) :
    Calls Tryz.prog 111 #[.int .i64 2, .slice A len cap] w fun e w' => e = .returned (.tuple #[bitsV (widthF 2) 0 (sumF 2 zs), .int .i64 0]) ∧ Below w.heap.size w w' := by
  have hB := (Below.refl w.heap.size w).alloc (Nat.le_refl _) (.cells #[.int .i64 0, .int .u64 0, .int .u64 0] 74 (0,0))
  have hbd := sumF_bd 2 zs hx
  have hwx : IntKind.u64.wrap (sumF 2 zs) = sumF 2 zs := by rw [IntKind.wrap_u64]; omega
  have hR1 : Reads (w.alloc (.cells #[.int .i64 0, .int .u64 0, .int .u64 0] 74 (0,0))) .u8 A len zs := hR.below hB
  have hs2 : Aside (widthF 2 = 32) := rfl
  rw [hs2.out]
  have hc := refCrc_any A len cap zs poly2 (BitVec.allOnes 32) _ hR1 hx
  rw [B32_poly2, B32_ones] at hc
  have hs : Aside (sumF 2 zs = 4294967295 - B32 (crc poly2 (BitVec.allOnes 32) (bvs zs))) := rfl
  have hyb := B32_bd (crc poly2 (BitVec.allOnes 32) (bvs zs))
  have hn := not_u32 _ hyb.1 hyb.2
  rw [← hs.out] at hn
  clear hs hR1 hR hyb
  generalize B32 (crc poly2 (BitVec.allOnes 32) (bvs zs)) = y at *
  generalize sumF 2 zs = x at *
  go_enter Tryz.func111, Tryz.ntmps111
  go_wp2_with fail
  refine hc.mono ?_
  rintro e w' ⟨rfl, rfl⟩
  go_wp2_with fail
  refine (refWidth_any 2 _).mono ?_
  rintro e w' ⟨rfl, rfl⟩
  rw [hs2.out]
  go_wp2
  refine bodyPost_ret (results_row_tmp rfl _ _ w.heap.size 74 _ (0,0) _ rfl (heap_alloc_new ..) Tryz.underlying74 rfl (by kernel_rfl)) rfl ⟨rfl, (Below.refl _ _).alloc (Nat.le_refl _) _⟩

set_option maxHeartbeats 1600000 in
theorem refSum_3 (A : Option Addr) (len cap : Nat) (zs : List Int) (hlen : len ≤ 1000000000000) (w : World) (hx : Bytes zs) (hR : Reads w .u8 A len zs) :
    Calls Tryz.prog 111 #[.int .i64 3, .slice A len cap] w fun e w' => e = .returned (.tuple #[bitsV (widthF 3) 0 (sumF 3 zs), .int .i64 0]) ∧ Below w.heap.size w w' := by
  have hB := (Below.refl w.heap.size w).alloc (Nat.le_refl _) (.cells #[.int .i64 0, .int .u64 0, .int .u64 0] 74 (0,0))
  have hbd := sumF_bd 3 zs hx
  have hwx : IntKind.u64.wrap (sumF 3 zs) = sumF 3 zs := by rw [IntKind.wrap_u64]; omega
  have hR1 : Reads (w.alloc (.cells #[.int .i64 0, .int .u64 0, .int .u64 0] 74 (0,0))) .u8 A len zs := hR.below hB
  have hs2 : Aside (widthF 3 = 16) := rfl
  rw [hs2.out]
  have HR1 : Aside (Reads (w.alloc (.cells #[.int .i64 0, .int .u64 0, .int .u64 0] 74 (0,0))) .u8 A len zs ∧ Bytes zs) := ⟨hR1, hx⟩
  have hl := hR1.1
  have hs : Aside (sumF 3 zs = 65535 - csW (wordsTo zs ((len + 1) / 2))) := by subst hl; rfl
  clear hl hR1 hR hx
  generalize sumF 3 zs = x at *
  go_enter Tryz.func111, Tryz.ntmps111
  go_wp2
  go_loop [6, 7] (fun u i => ∃ k : Nat, k ≤ (len + 1) / 2 ∧ i = .int .i64 (2 * (k : Int)) ∧ u = .int .u32 (csW (wordsTo zs k))) (fun _ i => len + 2 - (intOf i).toNat)
  case atStart => exact ⟨0, Nat.zero_le _, rfl, rfl⟩
  case round =>
    obtain ⟨k, hk, rfl, rfl⟩ := hrel
    by_cases hlt : 2 * k < len
    · have h1 : 2 * (k : Int) < (len : Int) := by omega
      have h0 : (0 : Int) ≤ 2 * (k : Int) := by omega
      have hwb := wordAt_bd zs HR1.out.2 k
      have hcb := csW_bd (wordsTo zs k)
      have hsn : Aside (csW (wordsTo zs (k + 1)) = foldF ((csW (wordsTo zs k) + wordAt zs k) % 4294967296)) := by rw [wordsTo_succ]; exact csW_snoc _ _
      generalize hW : wordAt zs k = v at *
      generalize csW (wordsTo zs k) = u at *
      have HW : Aside (wordAt zs k = v) := hW
      clear hW
      go_wp2_with fail
      refine (refWord_any A len cap k zs _ HR1.out.1 HR1.out.2 hlt hlen).mono ?_
      rintro e w' ⟨rfl, rfl⟩
      rw [HW.out]
      go_wp2_with fail
      refine (refFold_any _ (by omega) (by omega) _).mono ?_
      rintro e w' ⟨rfl, rfl⟩
      have hmod : Aside ((u + v) % 4294967296 = u + v) := (by omega : (u + v) % 4294967296 = u + v)
      rw [hmod.out] at hsn
      go_wp2
      go_round
      case rel => exact ⟨k + 1, by omega, by go_num, by rw [hsn.out]⟩
      case measure => simp [intOf]; omega
    · obtain rfl : k = (len + 1) / 2 := by omega
      have h1 : (len : Int) ≤ 2 * (((len + 1) / 2 : Nat) : Int) := by omega
      have hcb := csW_bd (wordsTo zs ((len + 1) / 2))
      generalize csW (wordsTo zs ((len + 1) / 2)) = u at *
      have hxe : (65535 - u) = x := hs.out.symm
      clear hs
      go_wp2_with fail
      refine (refWidth_any 3 _).mono ?_
      rintro e w' ⟨rfl, rfl⟩
      rw [hs2.out]
      go_wp2
      refine bodyPost_ret (results_row_tmp rfl _ _ w.heap.size 74 _ (0,0) _ rfl (heap_alloc_new ..) Tryz.underlying74 rfl (by kernel_rfl)) rfl ⟨rfl, (Below.refl _ _).alloc (Nat.le_refl _) _⟩

set_option maxHeartbeats 1600000 in
theorem refSum_4 (A : Option Addr) (len cap : Nat) (zs : List Int) (hlen : len ≤ 1000000000000) (w : World) (hx : Bytes zs) (hR : Reads w .u8 A len zs) :
    Calls Tryz.prog 111 #[.int .i64 4, .slice A len cap] w fun e w' => e = .returned (.tuple #[bitsV (widthF 4) 0 (sumF 4 zs), .int .i64 0]) ∧ Below w.heap.size w w' := by
  have hB := (Below.refl w.heap.size w).alloc (Nat.le_refl _) (.cells #[.int .i64 0, .int .u64 0, .int .u64 0] 74 (0,0))
  have hbd := sumF_bd 4 zs hx
  have hwx : IntKind.u64.wrap (sumF 4 zs) = sumF 4 zs := by rw [IntKind.wrap_u64]; omega
  have hR1 : Reads (w.alloc (.cells #[.int .i64 0, .int .u64 0, .int .u64 0] 74 (0,0))) .u8 A len zs := hR.below hB
  have hs2 : Aside (widthF 4 = 16) := rfl
  rw [hs2.out]
  have HR1 : Aside (Reads (w.alloc (.cells #[.int .i64 0, .int .u64 0, .int .u64 0] 74 (0,0))) .u8 A len zs ∧ Bytes zs) := ⟨hR1, hx⟩
  have hl := hR1.1
  have hs : Aside (sumF 4 zs = xorW (wordsTo zs ((len + 1) / 2))) := by subst hl; rfl
  clear hl hR1 hR hx
  generalize sumF 4 zs = x at *
  go_enter Tryz.func111, Tryz.ntmps111
  go_wp2
  go_loop [6, 8] (fun u i => ∃ k : Nat, k ≤ (len + 1) / 2 ∧ i = .int .i64 (2 * (k : Int)) ∧ u = .int .u32 (xorW (wordsTo zs k))) (fun _ i => len + 2 - (intOf i).toNat)
  case atStart => exact ⟨0, Nat.zero_le _, rfl, rfl⟩
  case round =>
    obtain ⟨k, hk, rfl, rfl⟩ := hrel
    by_cases hlt : 2 * k < len
    · have h1 : 2 * (k : Int) < (len : Int) := by omega
      have h0 : (0 : Int) ≤ 2 * (k : Int) := by omega
      have hwb := wordAt_bd zs HR1.out.2 k
      have hcb := xorW_bd' zs HR1.out.2 k
      have hsn : Aside (xorW (wordsTo zs (k + 1)) = bits .xor .u32 (xorW (wordsTo zs k)) (wordAt zs k)) := by rw [wordsTo_succ]; exact xorW_snoc _ _
      generalize hW : wordAt zs k = v at *
      generalize xorW (wordsTo zs k) = u at *
      have HW : Aside (wordAt zs k = v) := hW
      clear hW
      go_wp2_with fail
      refine (refWord_any A len cap k zs _ HR1.out.1 HR1.out.2 hlt hlen).mono ?_
      rintro e w' ⟨rfl, rfl⟩
      rw [HW.out]

      go_wp2
      go_round
      case rel => exact ⟨k + 1, by omega, by go_num, by rw [hsn.out]⟩
      case measure => simp [intOf]; omega
    · obtain rfl : k = (len + 1) / 2 := by omega
      have h1 : (len : Int) ≤ 2 * (((len + 1) / 2 : Nat) : Int) := by omega
      have hxe : xorW (wordsTo zs ((len + 1) / 2)) = x := hs.out.symm
      clear hs
      rw [hxe]
      go_wp2_with fail
      refine (refWidth_any 4 _).mono ?_
      rintro e w' ⟨rfl, rfl⟩
      rw [hs2.out]
      go_wp2
      refine bodyPost_ret (results_row_tmp rfl _ _ w.heap.size 74 _ (0,0) _ rfl (heap_alloc_new ..) Tryz.underlying74 rfl (by kernel_rfl)) rfl ⟨rfl, (Below.refl _ _).alloc (Nat.le_refl _) _⟩


theorem refSum_any (n : Int) (A : Option Addr) (len cap : Nat) (zs : List Int) (hlen : len ≤ 1000000000000) (w : World) (hx : Bytes zs) (hR : Reads w .u8 A len zs) :
    Calls Tryz.prog 111 #[.int .i64 n, .slice A len cap] w fun e w' => e = .returned (.tuple #[bitsV (widthF n) 0 (sumF n zs), .int .i64 (errF n)]) ∧ Below w.heap.size w w' := by
  by_cases h1 : n = 1
  · subst h1; exact refSum_1 A len cap zs hlen w hx hR
  by_cases h2 : n = 2
  · subst h2; exact refSum_2 A len cap zs hlen w hx hR
  by_cases h3 : n = 3
  · subst h3; exact refSum_3 A len cap zs hlen w hx hR
  by_cases h4 : n = 4
  · subst h4; exact refSum_4 A len cap zs hlen w hx hR
  · have hw : widthF n = 0 := by simp only [widthF, if_neg h1, if_neg h2, if_neg h3, if_neg h4]
    have hs : sumF n zs = 0 := by simp only [sumF, if_neg h1, if_neg h2, if_neg h3, if_neg h4]
    have he : errF n = 1 := by simp [errF, inF, h1, h2, h3, h4]
    rw [hw, hs, he]
    exact refSum_bad n (by omega) A len cap w
end Go.Proofs.YtdgilloblfbklaaGreatDoor
