/-
  The contract of Sum, any number.
-/
import Derived.Test.YtdgilloblfbklaaGreatDoorSum
set_option linter.unusedVariables false
set_option linter.unusedSimpArgs false
namespace Go.Proofs.YtdgilloblfbklaaGreatDoor
open Go.RowKit SumsMath

/-- The sum by a number. -/
def sumF (n : Int) (zs : List Int) : Int :=
  if n = 1 then B32 (crc poly1 0#32 (bvs zs)) else if n = 2 then 4294967295 - B32 (crc poly2 (BitVec.allOnes 32) (bvs zs)) else if n = 3 then 65535 - csW (wordsOf zs) else if n = 4 then xorW (wordsOf zs) else 0
def errF (n : Int) : Int := if inF n then 0 else 1

theorem crc_small (p : BitVec 32) (hp : ∀ i, 16 ≤ i → p.getLsbD i = false) : ∀ (l : List (BitVec 32)) (c : BitVec 32), (∀ i, 16 ≤ i → c.getLsbD i = false) → (∀ x ∈ l, ∀ i, 8 ≤ i → x.getLsbD i = false) → ∀ i, 16 ≤ i → (crc p c l).getLsbD i = false := by
  intro l
  induction l with
  | nil => intro c hc _; exact hc
  | cons x l ih =>
    intro c hc hx
    rw [crc_cons]
    refine ih _ ?_ (fun y hy => hx y (List.mem_cons_of_mem _ hy))
    have hn : ∀ n (z : BitVec 32), (∀ i, 16 ≤ i → z.getLsbD i = false) → ∀ i, 16 ≤ i → (stpn p n z).getLsbD i = false := by
      intro n
      induction n with
      | zero => intro z hz; exact hz
      | succ n ihn => intro z hz; rw [stpn_succ]; exact stp_small p 16 hp _ (ihn z hz)
    apply hn
    intro i hi
    rw [BitVec.getLsbD_xor, hc i hi, hx x (List.mem_cons_self ..) i (by omega)]
    rfl
theorem bvs_byte (xs : List Int) (hx : Bytes xs) : ∀ x ∈ bvs xs, ∀ i, 8 ≤ i → x.getLsbD i = false := by
  intro x h
  obtain ⟨y, hy, rfl⟩ := List.mem_map.1 h
  obtain ⟨k, hk, rfl⟩ := List.mem_iff_getElem.1 hy
  have := hx k
  rw [List.getD_eq_getElem?_getD, List.getElem?_eq_getElem hk] at this
  exact byte_high _ this
theorem small_nat (c : BitVec 32) (h : ∀ i, 16 ≤ i → c.getLsbD i = false) : B32 c ≤ 65535 := by
  have h2 : c.toNat < 2 ^ 16 := by
    apply Nat.lt_pow_two_of_testBit
    intro i hi
    exact h i hi
  unfold B32
  omega
theorem poly1_small : ∀ i, 16 ≤ i → poly1.getLsbD i = false := by
  intro i hi
  unfold poly1
  rw [BitVec.getLsbD_ofNat]
  have : Nat.testBit 40961 i = false := Nat.testBit_lt_two_pow (Nat.lt_of_lt_of_le (by omega : 40961 < 2 ^ 16) (Nat.pow_le_pow_right (by omega) hi))
  simp [this]
theorem crc16_bd (xs : List Int) (hx : Bytes xs) : 0 ≤ B32 (crc poly1 0#32 (bvs xs)) ∧ B32 (crc poly1 0#32 (bvs xs)) ≤ 65535 :=
  ⟨(B32_bd _).1, small_nat _ (crc_small poly1 poly1_small _ _ (fun i _ => by simp) (bvs_byte xs hx))⟩
theorem wordAt_bd (zs : List Int) (hx : Bytes zs) (k : Nat) : 0 ≤ wordAt zs k ∧ wordAt zs k ≤ 65535 := by
  have h1 := hx (2 * k)
  have h2 := hx (2 * k + 1)
  unfold wordAt
  omega
theorem xor16_bd (a b : Int) (ha : 0 ≤ a ∧ a ≤ 65535) (hb : 0 ≤ b ∧ b ≤ 65535) : 0 ≤ bits .xor .u32 a b ∧ bits .xor .u32 a b ≤ 65535 := by
  obtain ⟨x, rfl⟩ := Int.eq_ofNat_of_zero_le ha.1
  obtain ⟨y, rfl⟩ := Int.eq_ofNat_of_zero_le hb.1
  have h := bits_xor (BitVec.ofNat 32 x) (BitVec.ofNat 32 y)
  rw [B32_ofNat _ (by omega), B32_ofNat _ (by omega)] at h
  rw [h]
  unfold B32
  rw [BitVec.toNat_xor, BitVec.toNat_ofNat, BitVec.toNat_ofNat, Nat.mod_eq_of_lt (by omega), Nat.mod_eq_of_lt (by omega)]
  have := Nat.xor_lt_two_pow (n := 16) (x := x) (y := y) (by omega) (by omega)
  omega
theorem xorW_bd (l : List Int) (h : ∀ x ∈ l, 0 ≤ x ∧ x ≤ 65535) : 0 ≤ xorW l ∧ xorW l ≤ 65535 := by
  have : ∀ (l : List Int) (a : Int), (0 ≤ a ∧ a ≤ 65535) → (∀ x ∈ l, 0 ≤ x ∧ x ≤ 65535) → 0 ≤ l.foldl (fun n w => bits .xor .u32 n w) a ∧ l.foldl (fun n w => bits .xor .u32 n w) a ≤ 65535 := by
    intro l
    induction l with
    | nil => intro a ha _; exact ha
    | cons x l ih => intro a ha hl; exact ih _ (xor16_bd a x ha (hl x (List.mem_cons_self ..))) (fun y hy => hl y (List.mem_cons_of_mem _ hy))
  exact this l 0 ⟨by omega, by omega⟩ h
theorem wordsOf_bd (zs : List Int) (hx : Bytes zs) : ∀ x ∈ wordsOf zs, 0 ≤ x ∧ x ≤ 65535 := by
  intro x h
  obtain ⟨k, _, rfl⟩ := List.mem_map.1 h
  exact wordAt_bd zs hx k
theorem cutLo_16 (x : Int) (h : 0 ≤ x ∧ x ≤ 65535) : cutLo 16 x = x := by
  show x % 2 ^ 16 = x
  omega
theorem cutLo_32 (x : Int) (h : 0 ≤ x ∧ x ≤ 4294967295) : cutLo 32 x = x := by
  show x % 2 ^ 32 = x
  omega
theorem sumF_bd (n : Int) (zs : List Int) (hx : Bytes zs) : 0 ≤ sumF n zs ∧ sumF n zs ≤ 4294967295 := by
  have h1 := crc16_bd zs hx
  have h2 := B32_bd (crc poly2 (BitVec.allOnes 32) (bvs zs))
  have h3 := csW_bd (wordsOf zs)
  have h4 := xorW_bd _ (wordsOf_bd zs hx)
  unfold sumF
  repeat' split
  all_goals omega
theorem sumF_bd16 (n : Int) (hn : n ≠ 2) (zs : List Int) (hx : Bytes zs) : 0 ≤ sumF n zs ∧ sumF n zs ≤ 65535 := by
  have h1 := crc16_bd zs hx
  have h3 := csW_bd (wordsOf zs)
  have h4 := xorW_bd _ (wordsOf_bd zs hx)
  unfold sumF
  repeat' split
  all_goals omega

set_option maxHeartbeats 1600000 in
theorem sum_bad (n : Int) (hn : n < 1 ∨ 4 < n) (A : Option Addr) (len cap : Nat) (w : World) :
    Calls Tryz.prog 172 #[.int .i64 n, .slice A len cap] w fun e w' => e = .returned (.tuple #[bitsV 0 0 0, .int .i64 1]) ∧ Below w.heap.size w w' := by
  have hl := look_any (w.alloc (.cells #[.int .i64 0, .int .u64 0, .int .u64 0] 74)) n true
  have hin : inF n = false := by unfold inF; rw [if_neg (by omega), if_neg (by omega), if_neg (by omega), if_neg (by omega)]
  have hfn : fnF n = .nilFunc := by unfold fnF; rw [if_neg (by omega), if_neg (by omega), if_neg (by omega), if_neg (by omega)]
  simp only [World.size_alloc, hin, hfn] at hl
  go_enter Tryz.func172, Tryz.ntmps172
  go_wp2_with fail
  refine (rows_any _).mono ?_
  rintro e w' ⟨rfl, rfl⟩
  have hV4 : (((w.alloc (Obj.cells #[Value.int IntKind.i64 0, Value.int IntKind.u64 0, Value.int IntKind.u64 0] 74)).alloc (Obj.map rowsEs 4)).alloc (Obj.cells #[Value.string (nameF n), Value.int IntKind.i64 (widthF n), Value.nilFunc] 290)).heap[w.heap.size]? = some (.cells #[Value.int IntKind.i64 0, Value.int IntKind.u64 0, Value.int IntKind.u64 0] 74 (0,0)) := by
    rw [Below.heap_alloc _ _ _ (by simp; omega), Below.heap_alloc _ _ _ (by simp)]; exact heap_alloc_new _ _
  have hVB : Below w.heap.size w (((w.alloc (Obj.cells #[Value.int IntKind.i64 0, Value.int IntKind.u64 0, Value.int IntKind.u64 0] 74)).alloc (Obj.map rowsEs 4)).alloc (Obj.cells #[Value.string (nameF n), Value.int IntKind.i64 (widthF n), Value.nilFunc] 290)) :=
    (((Below.refl _ w).alloc (Nat.le_refl _) _).alloc (by simp) _).alloc (by simp; omega) _
  have c0 := cellOf hV4 0
  have c1 := cellOf hV4 1
  have c2 := cellOf hV4 2
  have f0 := frozenOf hV4 0
  have f1 := frozenOf hV4 1
  have f2 := frozenOf hV4 2
  simp only [List.getElem?_toArray, List.getElem?_cons_zero, List.getElem?_cons_succ] at c0 c1 c2
  have H4 : Aside _ := hV4
  clear hV4
  go_wp2
  exact bodyPost_ret (results_row_tmp rfl _ _ w.heap.size 74 _ (0,0) _ rfl H4.out Tryz.underlying74 rfl (by kernel_rfl)) rfl ⟨rfl, hVB⟩

theorem sum_any (n : Int) (A : Option Addr) (len cap : Nat) (zs : List Int) (hlen : len ≤ 1000000000000) (w : World) (hx : Bytes zs) (hR : Reads w .u8 A len zs) :
    Calls Tryz.prog 172 #[.int .i64 n, .slice A len cap] w fun e w' => e = .returned (.tuple #[bitsV (widthF n) 0 (sumF n zs), .int .i64 (errF n)]) ∧ Below w.heap.size w w' := by
  have hbd := sumF_bd n zs hx
  have hb16 := sumF_bd16 n
  by_cases h1 : n = 1
  · subst h1
    exact sum_g 1 182 _ A len cap w hbd 16 rfl (by omega) (by omega) (cutLo_16 _ (hb16 (by omega) zs hx)) rfl rfl (.inl rfl) (fun W' hW => crc16_any A len cap zs W' (hR.below hW) hx)
  by_cases h2 : n = 2
  · subst h2
    exact sum_g 2 184 _ A len cap w hbd 32 rfl (by omega) (by omega) (cutLo_32 _ hbd) rfl rfl (.inr (.inl rfl)) (fun W' hW => crc32_any A len cap zs W' (hR.below hW) hx)
  by_cases h3 : n = 3
  · subst h3
    exact sum_g 3 185 _ A len cap w hbd 16 rfl (by omega) (by omega) (cutLo_16 _ (hb16 (by omega) zs hx)) rfl rfl (.inr (.inr (.inl rfl))) (fun W' hW => csum_any A len cap zs hlen W' hx (hR.below hW))
  by_cases h4 : n = 4
  · subst h4
    exact sum_g 4 188 _ A len cap w hbd 16 rfl (by omega) (by omega) (cutLo_16 _ (hb16 (by omega) zs hx)) rfl rfl (.inr (.inr (.inr rfl))) (fun W' hW => xor_any A len cap zs hlen W' hx (hR.below hW))
  · have hw : widthF n = 0 := by simp only [widthF, if_neg h1, if_neg h2, if_neg h3, if_neg h4]
    have hs : sumF n zs = 0 := by simp only [sumF, if_neg h1, if_neg h2, if_neg h3, if_neg h4]
    have he : errF n = 1 := by simp [errF, inF, h1, h2, h3, h4]
    rw [hw, hs, he]
    exact sum_bad n (by omega) A len cap w
end Go.Proofs.YtdgilloblfbklaaGreatDoor
