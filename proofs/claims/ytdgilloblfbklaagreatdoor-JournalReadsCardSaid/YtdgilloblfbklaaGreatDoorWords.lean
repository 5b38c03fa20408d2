/-
  The words of bytes, one by one: the iterator's contract; folding; the two sums of words.
-/
import Derived.RangeFuncNested
import Derived.RangeFuncBound
import Derived.RangeFuncCalls
import Derived.RangeFuncLeaves
import Derived.RangeFuncBox
import Derived.Shelf.Abstract
import Derived.Shelf.RegionOpen
import Derived.OwnWalkIn
import Derived.TacticsInMore
import Derived.LoopNIn
import Derived.LoopIn
import Derived.Test.YtdgilloblfbklaaGreatDoorRem
set_option linter.unusedVariables false
set_option linter.unusedSimpArgs false
namespace Go.Proofs.YtdgilloblfbklaaGreatDoor
open Go.RowKit Go.Shelf SumsMath
attribute [local go_sem] Oper.semAt_some

/-- The k-th word of bytes. -/
def wordAt (zs : List Int) (k : Nat) : Int := 256 * zs.getD (2 * k) 0 + zs.getD (2 * k + 1) 0
def wordsTo (zs : List Int) (k : Nat) : List Int := (List.range k).map (wordAt zs)
theorem wordsTo_succ (zs : List Int) (k : Nat) : wordsTo zs (k + 1) = wordsTo zs k ++ [wordAt zs k] := by simp [wordsTo, List.range_succ]
theorem wordsTo_length (zs : List Int) (k : Nat) : (wordsTo zs k).length = k := by simp [wordsTo]
def wordsOf (zs : List Int) : List Int := wordsTo zs ((zs.length + 1) / 2)

theorem or_word (x y : Int) (hx : 0 ≤ x ∧ x ≤ 255) (hy : 0 ≤ y ∧ y ≤ 255) : bits .or .u32 (x * 256) y = 256 * x + y := by
  obtain ⟨a, rfl⟩ := Int.eq_ofNat_of_zero_le hx.1
  obtain ⟨b, rfl⟩ := Int.eq_ofNat_of_zero_le hy.1
  have h := bits_or (BitVec.ofNat 32 (a * 256)) (BitVec.ofNat 32 b)
  have e1 : B32 (BitVec.ofNat 32 (a * 256)) = (a : Int) * 256 := by rw [B32_ofNat _ (by omega)]; omega
  have e2 : B32 (BitVec.ofNat 32 b) = (b : Int) := B32_ofNat _ (by omega)
  rw [e1, e2] at h
  rw [h]
  have e3 : (BitVec.ofNat 32 (a * 256) ||| BitVec.ofNat 32 b) = BitVec.ofNat 32 (a * 256 + b) := by
    apply BitVec.eq_of_toNat_eq
    rw [BitVec.toNat_or, BitVec.toNat_ofNat, BitVec.toNat_ofNat, BitVec.toNat_ofNat, Nat.mod_eq_of_lt (by omega), Nat.mod_eq_of_lt (by omega), Nat.mod_eq_of_lt (by omega)]
    rw [show a * 256 = a <<< 8 by rw [Nat.shiftLeft_eq]]
    exact (Nat.shiftLeft_add_eq_or_of_lt (by omega) a).symm
  rw [e3, B32_ofNat _ (by omega)]
  omega

/-- What a round of a loop over the words keeps: what lay below, and the box. -/
def KpBox (n₀ Bs : Nat) (W W' : World) : Prop := Below n₀ W W' ∧ W'.heap[Bs]? = W.heap[Bs]?

set_option maxRecDepth 100000 in
set_option maxHeartbeats 2000000 in
theorem words1_in (F : Fence) (n : Nat) (h42 : F.fn 194) (hro : F.round = none) (hn : 1 ≤ n) (l Bs n₀ : Nat) (A : Option Addr) (len cap : Nat) (zs : List Int) (hlen : len ≤ 1000000000000) (J Jx : List Int → World → Prop)
    (hY : ∀ pre x W, J pre W → pre.length < (len + 1) / 2 → YieldAt F (n - 1) Tryz.prog l #[.int .u32 x] W fun e W' =>
      (e = .returned (.bool true) ∧ J (pre ++ [x]) W' ∧ KpBox n₀ Bs W W') ∨ (e = .returned (.bool false) ∧ Jx (pre ++ [x]) W'))
    (W : World) (hBs : W.cell? ⟨Bs, 0, none⟩ = some (.slice A len cap)) (hx : Bytes zs) (hR : ∀ W', Below n₀ W W' → Reads W' .u8 A len zs) (h0 : J [] W) :
    CallsIn F n Tryz.prog 194 #[.func (.yield l) #[] #[], .pointer (some ⟨Bs, 0, none⟩)] W fun e W' => (∃ v, e = .returned v) ∧
      ((∃ ys, ys = wordsTo zs ((len + 1) / 2) ∧ J ys W') ∨ (∃ pre, (∃ k, k ≤ (len + 1) / 2 ∧ pre = wordsTo zs k) ∧ Jx pre W')) := by
  have HR : Aside (∀ W', Below n₀ W W' → Reads W' .u8 A len zs) := hR
  have HB : Aside (W.cell? ⟨Bs, 0, none⟩ = some (.slice A len cap)) := hBs
  clear hR hBs
  refine callsIn_of_wp Tryz.func194 rfl h42 ?_ hro
  simp only [Tryz.ntmps194, List.size_toArray, List.length_cons, List.length_nil, Nat.reduceAdd, Nat.reduceSub, Array.replicate_succ, Array.replicate_zero, List.push_toArray, List.append_toArray, List.nil_append, List.cons_append]
  gi_wp2
  gi_loopw [3] (fun i wr => ∃ k : Nat, k ≤ (len + 1) / 2 ∧ i = .int .i64 (2 * (k : Int)) ∧ J (wordsTo zs k) wr ∧ Below n₀ W wr ∧ Aside (wr.heap[Bs]? = W.heap[Bs]?))
    (fun i _ => len + 2 - (intOf i).toNat)
  case atStart => exact ⟨0, Nat.zero_le _, rfl, h0, Below.refl _ _, rfl⟩
  case round =>
    obtain ⟨k, hk, rfl, hJs, hnx, hbx⟩ := hrel
    have hcb : wr.cell? ⟨Bs, 0, none⟩ = some (.slice A len cap) := (World.cell?_of_block (w := W) (w' := wr) (a := ⟨Bs, 0, none⟩) hbx.out).trans HB.out
    by_cases hlt : 2 * k < len
    · have hrd := HR.out wr hnx
      obtain ⟨b, off, rfl, hbl, hcs⟩ := hrd.plain (by omega)
      have hca := hcs (2 * k) hlt
      have hb0 := hx (2 * k)
      have hb1 := hx (2 * k + 1)
      have hwd : Aside (wordAt zs k = 256 * zs.getD (2 * k) 0 + zs.getD (2 * k + 1) 0) := rfl
      obtain ⟨fn, tmps, assign, body, hy, hR⟩ := hY _ (wordAt zs k) wr hJs (by rw [wordsTo_length]; omega)
      by_cases hodd : 2 * k + 1 < len
      · have hcc := hcs (2 * k + 1) hodd
        have hor := or_word _ _ hb0 hb1
        rw [← hwd.out] at hor
        generalize hX : zs.getD (2 * k) 0 = x at *
        generalize hYv : zs.getD (2 * k + 1) 0 = y at *
        generalize hW : wordAt zs k = wv at *
        clear hrd hwd hX hYv hcs
        have HWV : Aside (wordAt zs k = wv) := hW
        clear hW
        gi_wp2
        refine hR.mono ?_
        rintro e W3 (⟨rfl, hJ3, hk3⟩ | ⟨rfl, hJx3⟩)
        · gi_wp2
          go_roundw
          case rel => exact ⟨k + 1, by omega, by go_num, by rw [wordsTo_succ, HWV.out]; exact hJ3, hnx.trans hk3.1, hk3.2.trans hbx.out⟩
          case measure => simp [intOf]; omega
        · gi_wp2
          refine bodyPost_ret (results_none rfl _ _ _) rfl ?_
          exact ⟨⟨_, rfl⟩, .inr ⟨_, ⟨k + 1, by omega, by rw [wordsTo_succ, HWV.out]⟩, hJx3⟩⟩
      · have hz : zs.getD (2 * k + 1) 0 = 0 := by
          have := hrd.1
          rw [List.getD_eq_getElem?_getD, List.getElem?_eq_none (by omega)]; rfl
        have hev : zs.getD (2 * k) 0 * 256 = wordAt zs k := by rw [hwd.out, hz]; omega
        generalize hX : zs.getD (2 * k) 0 = x at *
        generalize hW : wordAt zs k = wv at *
        clear hrd hwd hX hcs hz hb1
        have HWV : Aside (wordAt zs k = wv) := hW
        clear hW
        gi_wp2
        refine hR.mono ?_
        rintro e W3 (⟨rfl, hJ3, hk3⟩ | ⟨rfl, hJx3⟩)
        · gi_wp2
          go_roundw
          case rel => exact ⟨k + 1, by omega, by go_num, by rw [wordsTo_succ, HWV.out]; exact hJ3, hnx.trans hk3.1, hk3.2.trans hbx.out⟩
          case measure => simp [intOf]; omega
        · gi_wp2
          refine bodyPost_ret (results_none rfl _ _ _) rfl ?_
          exact ⟨⟨_, rfl⟩, .inr ⟨_, ⟨k + 1, by omega, by rw [wordsTo_succ, HWV.out]⟩, hJx3⟩⟩
    · obtain rfl : k = (len + 1) / 2 := by omega
      have hge : (len : Int) ≤ 2 * (((len + 1) / 2 : Nat) : Int) := by omega
      gi_wp2
      go_end0
      exact ⟨⟨_, rfl⟩, .inl ⟨_, rfl, hJs⟩⟩

theorem words_in (F : Fence) (n : Nat) (h36 : F.fn 186) (hro : F.round = none) (A : Option Addr) (len cap : Nat) (w : World) :
    CallsIn F n Tryz.prog 186 #[.slice A len cap] w fun e w' => e = .returned (.func (.func 194) #[] #[.pointer (some ⟨w.heap.size, 0, none⟩)]) ∧ w' = w.alloc (.cells #[.slice A len cap] 22) := by
  refine callsIn_of_wp Tryz.func186 rfl h36 ?_ hro
  simp only [Tryz.ntmps186, List.size_toArray, List.length_cons, List.length_nil, Nat.reduceAdd, Nat.reduceSub, Array.replicate_succ, Array.replicate_zero, List.push_toArray, List.append_toArray, List.nil_append, List.cons_append]
  gi_wp2
  go_ret
  exact ⟨rfl, rfl⟩

theorem words_stops (F : Fence) (n : Nat) (h42 : F.fn 194) (hro : F.round = none) (hn : 1 ≤ n) (Bs n₀ : Nat) (A : Option Addr) (len cap : Nat) (zs : List Int) (hlen : len ≤ 1000000000000) (w : World) (hBs : Bs < w.heap.size) (hn₀ : n₀ ≤ w.heap.size)
    (hc : w.cell? ⟨Bs, 0, none⟩ = some (.slice A len cap)) (hx : Bytes zs) (hR : ∀ W', Below n₀ w W' → Reads W' .u8 A len zs) :
    SeqStopsK F n Tryz.prog 194 #[.pointer (some ⟨Bs, 0, none⟩)] (fun x : Int => #[Value.int .u32 x]) (KpBox n₀ Bs) (fun ys => ys = wordsTo zs ((len + 1) / 2)) (fun pre => ∃ k, k ≤ (len + 1) / 2 ∧ pre = wordsTo zs k) ((len + 1) / 2) w := fun l J Jx W hW _ _ hY h0 =>
  words1_in F n h42 hro hn l Bs n₀ A len cap zs hlen J Jx hY W ((hW.cell (p := ⟨Bs, 0, none⟩) hBs).trans hc) hx (fun W' hW' => hR W' ((hW.mono hn₀).trans hW')) h0
end Go.Proofs.YtdgilloblfbklaaGreatDoor
