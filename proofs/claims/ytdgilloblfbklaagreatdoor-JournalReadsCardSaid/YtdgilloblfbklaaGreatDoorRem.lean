/-
  The contract of the CRCs' remainder.
-/
import Derived.Test.YtdgilloblfbklaaGreatDoorTable
set_option linter.unusedVariables false
set_option linter.unusedSimpArgs false
namespace Go.Proofs.YtdgilloblfbklaaGreatDoor
open Go.RowKit SumsMath

def bvs (xs : List Int) : List (BitVec 32) := xs.map (BitVec.ofInt 32)
/-- Numbers that are bytes. -/
def Bytes (xs : List Int) : Prop := ∀ j, 0 ≤ xs.getD j 0 ∧ xs.getD j 0 ≤ 255

theorem byte_high (x : Int) (h : 0 ≤ x ∧ x ≤ 255) : ∀ i, 8 ≤ i → (BitVec.ofInt 32 x).getLsbD i = false := by
  intro i hi
  obtain ⟨n, rfl⟩ := Int.eq_ofNat_of_zero_le h.1
  rw [BitVec.ofInt_natCast, BitVec.getLsbD_ofNat]
  have : n.testBit i = false := Nat.testBit_lt_two_pow (Nat.lt_of_lt_of_le (by omega : n < 2 ^ 8) (Nat.pow_le_pow_right (by omega) hi))
  simp [this]
theorem shr_byte (c : BitVec 32) (x : Int) (h : 0 ≤ x ∧ x ≤ 255) : (c ^^^ BitVec.ofInt 32 x) >>> 8 = c >>> 8 := by
  apply bv_ext
  intro i hi
  rw [BitVec.getLsbD_ushiftRight, BitVec.getLsbD_ushiftRight, BitVec.getLsbD_xor, byte_high x h _ (by omega)]
  simp
/-- Which row of the table. -/
theorem which (c : BitVec 32) (x : Int) (h : 0 ≤ x ∧ x ≤ 255) : bits .xor .u8 (B32 c % 256) x = (((c ^^^ BitVec.ofInt 32 x) &&& 255#32).toNat : Int) ∧ ((c ^^^ BitVec.ofInt 32 x) &&& 255#32).toNat < 256 := by
  obtain ⟨n, rfl⟩ := Int.eq_ofNat_of_zero_le h.1
  have hn : n < 256 := by omega
  have hc : B32 c % 256 = ((c.toNat % 256 : Nat) : Int) := by unfold B32; omega
  have e1 : ((c ^^^ BitVec.ofInt 32 (n : Int)) &&& 255#32).toNat = (c.toNat % 256) ^^^ n := by
    rw [BitVec.ofInt_natCast, BitVec.toNat_and, BitVec.toNat_xor, BitVec.toNat_ofNat, BitVec.toNat_ofNat]
    rw [Nat.mod_eq_of_lt (show n < 2 ^ 32 by omega)]
    show (c.toNat ^^^ n) &&& (2 ^ 8 - 1) = _
    rw [Nat.and_two_pow_sub_one_eq_mod, Nat.xor_mod_two_pow]
    rw [Nat.mod_eq_of_lt (show n < 2 ^ 8 by omega)]
  have hlt : (c.toNat % 256) ^^^ n < 256 := Nat.xor_lt_two_pow (n := 8) (Nat.mod_lt _ (by omega)) hn
  rw [e1]
  refine ⟨?_, hlt⟩
  rw [hc]
  show IntKind.u8.wrap ((BitVec.ofInt 8 ((c.toNat % 256 : Nat) : Int) ^^^ BitVec.ofInt 8 (n : Int)).toNat : Int) = _
  rw [BitVec.ofInt_natCast, BitVec.ofInt_natCast, BitVec.toNat_xor, BitVec.toNat_ofNat, BitVec.toNat_ofNat, IntKind.wrap_u8]
  rw [Nat.mod_eq_of_lt (show c.toNat % 256 < 2 ^ 8 from Nat.mod_lt _ (by omega)), Nat.mod_eq_of_lt (show n < 2 ^ 8 from hn)]
  omega
theorem tab_at (poly z : BitVec 32) : tabF poly (z &&& 255#32).toNat = stpn poly 8 (z &&& 255#32) := by
  unfold tabF
  rw [BitVec.ofNat_toNat, BitVec.setWidth_eq]
theorem rem_step (poly c : BitVec 32) (x : Int) (h : 0 ≤ x ∧ x ≤ 255) : bits .xor .u32 (B32 c / (256 : Int)) (B32 (tabF poly ((c ^^^ BitVec.ofInt 32 x) &&& 255#32).toNat)) = B32 (stpn poly 8 (c ^^^ BitVec.ofInt 32 x)) := by
  have e := B32_shr c 8
  have e' : B32 c / (256 : Int) = B32 (c >>> 8) := by simpa using e
  rw [e', tab_at, bits_xor, ← table_step poly (c ^^^ BitVec.ofInt 32 x), shr_byte c x h]

theorem crc_snoc (p c : BitVec 32) (l : List (BitVec 32)) (x : BitVec 32) : crc p c (l ++ [x]) = stpn p 8 (crc p c l ^^^ x) := by
  unfold crc
  rw [List.foldl_append]
  rfl
theorem bvs_take (xs : List Int) (k : Nat) (h : k < xs.length) : bvs (xs.take (k + 1)) = bvs (xs.take k) ++ [BitVec.ofInt 32 (xs.getD k 0)] := by
  unfold bvs
  rw [List.take_succ_eq_append_getElem h, List.map_append]
  simp [List.getD_eq_getElem?_getD, List.getElem?_eq_getElem h]

set_option maxHeartbeats 1600000 in
set_option maxRecDepth 100000 in
theorem remainder_any (A : Option Addr) (n d : Nat) (xs : List Int) (poly c0 : BitVec 32) (w : World) (HR : Reads w .u8 A n xs) (hx : Bytes xs) :
    Calls Tryz.prog 183 #[.slice A n d, .int .u32 (B32 poly), .int .u32 (B32 c0)] w fun e w' => e = .returned (.int .u32 (B32 (crc poly c0 (bvs xs)))) ∧ Below w.heap.size w w' := by
  have hz : ∀ W : World, (zeroValue 299).run Tryz.prog W = .ok (.agg zeros256) W := fun _ => by kernel_rfl
  have hmk := fun (fn : Fn) (first cap : Array Value) (w : World) => (rfl : (Instr.makeFunc fn first cap).run Tryz.prog w = .ok (.func fn first cap) w)
  have hn := HR.2.1
  have HA : Aside (Reads w .u8 A n xs ∧ Bytes xs) := ⟨HR, hx⟩
  have hb0 : Below w.heap.size w (w.alloc (.cells #[.int .u32 (B32 poly)] 70)) := (Below.refl _ _).alloc (Nat.le_refl _) _
  clear HR hx
  go_enter Tryz.func183, Tryz.ntmps183
  go_wp2_with fail
  refine (table_any poly w.heap.size _ (cellOf (heap_alloc_new w _) 0)).mono ?_
  rintro e w1 ⟨cs, rfl, ht, hb1⟩
  have HT : Aside (TabIs poly cs 256) := ht
  have hb2 : Below w.heap.size w w1 := hb0.trans (hb1.mono (by simp))
  have hs1 := hb2.size
  clear hb0 hb1 ht
  have hnew : Aside ((w1.alloc (.cells zeros256 299)).heap[w1.heap.size]? = some (.cells zeros256 299 (0, 0))) := heap_alloc_new w1 _
  go_wp2_with ((with_reducible show wpList _ _ _ _ _ _); refine wpList_store_row rfl 299 (.tmp 7) (.tmp 11) rfl w1.heap.size cs rfl rfl 299 zeros256 hnew.out (by rw [info65, HT.out.1]) (by rw [HT.out.1]; simp [zeros256]) HT.out.oneCell ?_)
  have f1 : Aside (((w1.alloc (.cells zeros256 299)).setRow w1.heap.size cs).heap[w1.heap.size]? = some (.cells cs 299 (0, 0))) := setRow_heap _ _ _ _ _ _ hnew.out
  have f2 : Below w.heap.size w ((w1.alloc (.cells zeros256 299)).setRow w1.heap.size cs) :=
    (hb2.alloc hs1 _).trans ⟨rfl, rfl, rfl, by simp, fun k hk => by simp only [World.setRow, Array.getElem?_modify]; rw [if_neg (by omega)]⟩
  clear hnew hb2
  generalize (w1.alloc (.cells zeros256 299)).setRow w1.heap.size cs = W at *
  go_loop [2, 14] (fun c i => ∃ k : Nat, k ≤ n ∧ i = .int .i64 k ∧ c = .int .u32 (B32 (crc poly c0 (bvs (xs.take k))))) (fun _ i => n - (intOf i).toNat)
  case atStart => exact ⟨0, Nat.zero_le _, rfl, by simp [bvs, crc]⟩
  case round =>
    obtain ⟨k, hk, rfl, rfl⟩ := hrel
    by_cases hlt : k < n
    · obtain ⟨a, rfl, hca0⟩ := HA.out.1.at_ (k : Int) (by omega) (by omega)
      have hblk := HA.out.1.block_lt a rfl (by omega)
      have hbd := HA.out.2 k
      simp only [Int.toNat_natCast, rd] at hca0
      have hsn : Aside (crc poly c0 (bvs (xs.take (k + 1))) = stpn poly 8 (crc poly c0 (bvs (xs.take k)) ^^^ BitVec.ofInt 32 (xs.getD k 0))) := by
        rw [bvs_take xs k (by rw [HA.out.1.1]; exact hlt)]
        exact crc_snoc _ _ _ _
      generalize hX : xs.getD k 0 = x at *
      generalize hC : crc poly c0 (bvs (xs.take k)) = c at *
      have hca : W.cell? (a.add k) = some (.int .u8 x) := by rw [f2.cell (by rw [add_block]; exact hblk)]; exact hca0
      obtain ⟨hwh, hwl⟩ := which c x hbd
      have hst := rem_step poly c x hbd
      have hcb := B32_bd c
      generalize hM : ((c ^^^ BitVec.ofInt 32 x) &&& 255#32).toNat = m at *
      have hcell : W.cell? ⟨w1.heap.size, m, none⟩ = some (.int .u32 (B32 (tabF poly m))) := by rw [cellOf f1.out]; exact HT.out.2.2 m hwl
      have hsx : Aside (stpn poly 8 (c ^^^ BitVec.ofInt 32 x) = crc poly c0 (bvs (xs.take (k + 1)))) := hsn.out.symm
      clear hca0 hM hC hX hsn hblk
      have hk0 : (0 : Int) ≤ (k : Int) := by omega
      have hk1 : (k : Int) < (n : Int) := by omega
      have hm0 : (0 : Int) ≤ (m : Int) := by omega
      have hm1 : (m : Int) < 256 := by omega
      go_wp2
      go_round
      case rel => exact ⟨k + 1, by omega, by go_num, by rw [hsx.out]⟩
      case measure => simp [intOf]; omega
    · obtain rfl : n = k := by omega
      have hfin : Aside (xs.take n = xs) := List.take_of_length_le (by rw [HA.out.1.1]; exact Nat.le_refl _)
      go_wp2
      go_ret
      exact ⟨by rw [hfin.out]; rfl, f2⟩
end Go.Proofs.YtdgilloblfbklaaGreatDoor
