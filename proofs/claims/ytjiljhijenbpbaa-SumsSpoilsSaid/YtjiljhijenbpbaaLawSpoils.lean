/-
  The walk of the law SumsSpoils.
-/
import Derived.Test.YtjiljhijenbpbaaAlive
import Derived.Test.YtjiljhijenbpbaaMathSpoils
set_option linter.unusedVariables false
set_option linter.unusedSimpArgs false
namespace Go.Proofs.Ytjiljhijenbpbaa
open Go.RowKit SumsMath

theorem bit_one (ch : Int) (hc : 0 ≤ ch ∧ ch ≤ 4294967295) (m : Nat) : (bits .and .u32 (ch / 2 ^ m) 1 == 1) = bitOf ch m := by
  have hp : (2:Int) ^ m = ((2 ^ m : Nat) : Int) := by simp
  have h := B32_ofInt ch hc
  rw [hp]
  conv => lhs; rw [← h]
  rw [B32_shr, and_one, BitVec.getLsbD_ushiftRight]
  rfl
set_option maxHeartbeats 3200000 in
theorem spoils_law (A : Option Addr) (n cap : Nat) (zs : List Int) (at_ ch : Int) (ha : 0 ≤ at_ ∧ at_ ≤ 4294967295) (hc : 0 ≤ ch ∧ ch ≤ 4294967295) (w : World) (hx : Bytes zs) (hR : Reads w .u8 A n zs) :
    Calls Try.prog 6 #[.slice A n cap, .int .u32 at_, .int .u32 ch] w fun e w' => e = .returned (.bool true) ∧ Below w.heap.size w w' := by
  have hlen := hR.2.1
  have HR : Aside (Reads w .u8 A n zs ∧ Bytes zs) := ⟨hR, hx⟩
  clear hR hx
  by_cases hb : n = 0 ∨ 60000 < n
  · rcases hb with rfl | hb
    · go_enter Try.func6, Try.ntmps6
      go_wp2_with fail
      refine (alive_any _).mono ?_
      rintro e w1 ⟨rfl, hb1⟩
      go_wp2_with fail
      refine (alive_any _).mono ?_
      rintro e w2 ⟨rfl, hb2⟩
      go_wp2
      go_ret
      exact ⟨rfl, hb1.trans (hb2.mono hb1.size)⟩
    · have hd : ((n : Int) == 0) = false := by simp; omega
      go_enter Try.func6, Try.ntmps6
      go_wp2_with fail
      refine (alive_any _).mono ?_
      rintro e w1 ⟨rfl, hb1⟩
      go_wp2_with fail
      refine (alive_any _).mono ?_
      rintro e w2 ⟨rfl, hb2⟩
      go_wp2
      go_ret
      exact ⟨rfl, hb1.trans (hb2.mono hb1.size)⟩
  · have hd : ((n : Int) == 0) = false := by simp; omega
    have hd2 : decide (60000 < (n : Int)) = false := decide_eq_false (by omega)
    have hn0 : 8 * (n : Int) ≠ 0 := by omega
    obtain ⟨fr, hfr, hfn⟩ : ∃ fr : Nat, at_ % (8 * (n : Int)) = fr ∧ fr < 8 * n := by
      have h1 := Int.emod_nonneg at_ hn0
      have h2 := Int.emod_lt_of_pos at_ (show 0 < 8 * (n : Int) by omega)
      exact ⟨(at_ % (8 * (n : Int))).toNat, by omega, by omega⟩
    go_enter Try.func6, Try.ntmps6
    go_wp2_with fail
    refine (alive_any _).mono ?_
    rintro e w1 ⟨rfl, hb1⟩
    go_wp2
    go_loopw [7] (fun i wr => ∃ k : Nat, 1 ≤ k ∧ k ≤ 3 ∧ i = .int .i64 k ∧ Below w.heap.size w wr) (fun i _ => 4 - (intOf i).toNat)
    case atStart => exact ⟨1, by omega, by omega, rfl, hb1⟩
    case round =>
      obtain ⟨k, hk1, hk3, rfl, hB⟩ := hrel
      clear hb1
      by_cases hk2 : k ≤ 2
      · have hs1 := hB.size
        have HR1 : Aside (Reads wr .u8 A n zs) := HR.out.1.below hB
        have HO1 : Aside (wr.ownsRow w.heap.size 5 1 (.slice none 0 0) ([] : List Int).length (nums .u8 [])) := World.ownsRow_nil _ _ _ _
        go_wp2_with (
          at_builtin
          refine append_row w.heap.size rfl _ _ 29 5 .u8 1 rfl Try.underlying29 infoByte (by omega) (.slice none 0 0) [] zs A n cap rfl rfl HO1.out HR1.out hs1 (by simp; omega) ?_
          intro v1 w2 hown hg hat
          have hzl : ([] ++ zs : List Int).length = n := by simpa using HR.out.1.1
          rw [hzl, List.nil_append] at hown
          obtain ⟨g, c, rfl, hgb, hgs, hnc, hcm⟩ := own_some hown (by omega)
          have hB2 : Below w.heap.size w w2 := hB.trans (own_grown HO1.out hg hs1)
          have HO2 : Aside (w2.ownsRow w.heap.size 5 1 (.slice (some ⟨g, 0, none⟩) n c) n (nums .u8 zs) ∧ Below w.heap.size w w2) := ⟨hown, hB2⟩
          clear hown hg hat hB hB2 hs1 HO1 HR1 hzl hgs)
        clear hfr
        go_loopw [11, 12] (fun o i wr => ∃ (m : Nat) (b : Bool) (cs : List Int), m ≤ 16 * k ∧ i = .int .i64 m ∧ o = .bool b ∧ Aside ((wr.ownsRow w.heap.size 5 1 (.slice (some ⟨g, 0, none⟩) n c) n (nums .u8 cs) ∧ Below w.heap.size w wr) ∧ Changed zs cs ch fr m ∧ (b = true → ∃ i, i < m ∧ fr + i < 8 * zs.length ∧ bitOf ch i = true))) (fun _ i _ => 16 * k - (intOf i).toNat)
        case atStart => exact ⟨0, false, zs, by omega, rfl, rfl, HO2.out, Changed.start zs HR.out.2 ch fr, fun h => by cases h⟩
        case round =>
          obtain ⟨m, b, cs, hm, rfl, rfl, hI⟩ := hrel
          clear HO2
          by_cases hgo : m < 16 * k ∧ fr + m < 8 * n
          · obtain ⟨hg1, hg2⟩ := hgo
            have hg3 : (fr : Int) + (m : Int) < 8 * (n : Int) := by omega
            have hg4 : (m : Int) < 16 * (k : Int) := by omega
            have hbt : (bits .and .u32 (ch / 2 ^ m) 1 == 1) = bitOf ch m := bit_one ch hc m
            cases hbit : bitOf ch m with
            | false =>
              rw [hbit] at hbt
              have hI2 : Aside ((wr.ownsRow w.heap.size 5 1 (.slice (some ⟨g, 0, none⟩) n c) n (nums .u8 cs) ∧ Below w.heap.size w wr) ∧ Changed zs cs ch fr (m + 1) ∧ (b = true → ∃ i, i < m + 1 ∧ fr + i < 8 * zs.length ∧ bitOf ch i = true)) :=
                ⟨hI.out.1, hI.out.2.1.skip hbit, fun h => by obtain ⟨i, h1, h2⟩ := hI.out.2.2 h; exact ⟨i, by omega, h2⟩⟩
              clear hI hbit
              go_wp2
              go_roundw
              case rel => exact ⟨m + 1, b, cs, by omega, by go_num, rfl, hI2.out⟩
              case measure => simp [intOf]; omega
            | true =>
              rw [hbit] at hbt
              have hlz : zs.length = n := HR.out.1.1
              obtain ⟨kk, hkk⟩ : ∃ kk, kk = fr + m := ⟨_, rfl⟩
              have hkk1 : (fr : Int) + (m : Int) = (kk : Int) := by omega
              obtain ⟨q, hq⟩ : ∃ q, q = kk / 8 := ⟨_, rfl⟩
              obtain ⟨s, hs⟩ : ∃ s, s = kk % 8 := ⟨_, rfl⟩
              have hst := hI.out.2.1.step hbit (show fr + m < 8 * zs.length by omega)
              rw [← hkk, ← hq, ← hs] at hst
              have hqn : q < n := by omega
              have hcb := hI.out.2.1.1 q
              have hpb := pow_byte s (by omega)
              have hX := X_u8 _ _ hcb hpb
              have hXb := X_8 _ _ hcb hpb
              have h1 : wr.drew.cell? ⟨g, q, none⟩ = some (.int .u8 (cs.getD q 0)) := own_at hI.out.1.1 q hqn
              have h2 : wr.drew.frozen? ⟨g, q, none⟩ = false := hI.out.1.1.frozenAt q
              have hI2 : Aside (((wr.drew.setCell ⟨g, q, none⟩ (.int .u8 (X (cs.getD q 0) (2 ^ s)))).ownsRow w.heap.size 5 1 (.slice (some ⟨g, 0, none⟩) n c) n (nums .u8 (cs.set q (X (cs.getD q 0) (2 ^ s)))) ∧ Below w.heap.size w (wr.drew.setCell ⟨g, q, none⟩ (.int .u8 (X (cs.getD q 0) (2 ^ s))))) ∧ Changed zs (cs.set q (X (cs.getD q 0) (2 ^ s))) ch fr (m + 1) ∧ (true = true → ∃ i, i < m + 1 ∧ fr + i < 8 * zs.length ∧ bitOf ch i = true)) :=
                ⟨⟨own_put (own_keep hI.out.1.1 (Below.refl _ _).drew) q _, (hI.out.1.2.drew.setCell (p := ⟨_, _, _⟩) hgb _)⟩, hst, fun _ => ⟨m, by omega, by omega, hbit⟩⟩
              have t1 : (kk : Int) / 8 = (q : Int) := by omega
              have t2 : (kk : Int) % 8 = (s : Int) := by omega
              have t3 : (q : Int) < (n : Int) := by omega
              have t4 : (s : Int) < 8 := by omega
              have t5 : (0 : Int) ≤ (q : Int) := by omega
              have t6 : (0 : Int) ≤ (s : Int) := by omega
              have t7 : (kk : Int).tdiv 8 = (q : Int) := by rw [Int.tdiv_eq_ediv_of_nonneg (by omega)]; exact t1
              have t8 : (kk : Int).tmod 8 = (s : Int) := by rw [Int.tmod_eq_emod_of_nonneg (by omega)]; exact t2
              generalize hcx : cs.getD q 0 = x at *
              generalize hxx : X x (2 ^ s) = y at *
              clear hI hst hbit hcb hkk hq hs
              have HW : Aside (IntKind.u8.wrap (2 ^ s) = 2 ^ s) := wraps_u8 _ hpb.1 (by omega)
              have hw8 := HW.out
              go_wp2_with fail
              go_region
              go_wp2
              go_roundw
              case rel => exact ⟨m + 1, true, cs.set q y, by omega, by go_num, rfl, hI2.out.1, hI2.out.2.1, fun _ => hI2.out.2.2 (by trivial)⟩
              case measure => simp [intOf]; omega
          · have hB := hI.out.1.2
            have hRc := own_rd hI.out.1.1
            have hne : b = true → sumF k cs ≠ sumF k zs := by
              intro hb
              obtain rfl | rfl : k = 1 ∨ k = 2 := by omega
              · exact spoils1 zs cs HR.out.2 ch fr m (by omega) hI.out.2.1 (hI.out.2.2 hb)
              · exact spoils2 zs cs HR.out.2 ch fr m (by omega) hI.out.2.1 (hI.out.2.2 hb)
            have hq1 := ofSum_any k (some ⟨g, 0, none⟩) n c cs (by omega) wr hI.out.2.1.1 hRc
            have HQ2 : Aside (∀ V, Below w.heap.size w V → Calls Try.prog 24 #[.int .i64 k, .slice A n cap] V fun e W' => e = .returned (.int .u64 (sumF k zs)) ∧ Below V.heap.size V W') := fun V h => ofSum_any k A n cap zs (by omega) V HR.out.2 (HR.out.1.below h)
            generalize sumF k cs = s1 at *
            generalize sumF k zs = s2 at *
            clear hI hRc
            cases b with
            | false =>
              clear hne hq1
              by_cases hm2 : m < 16 * k
              · have hm3 : (m : Int) < 16 * (k : Int) := by omega
                have hm4 : 8 * (n : Int) ≤ (fr : Int) + (m : Int) := by omega
                go_wp2
                go_roundw
                case rel => exact ⟨k + 1, by omega, by omega, by go_num, hB⟩
                case measure => simp [intOf]; omega
              · have hm3 : 16 * (k : Int) ≤ (m : Int) := by omega
                go_wp2
                go_roundw
                case rel => exact ⟨k + 1, by omega, by omega, by go_num, hB⟩
                case measure => simp [intOf]; omega
            | true =>
              have hs12 : (s1 == s2) = false := by simpa using hne rfl
              have HQ1 : Aside _ := hq1
              clear hne hq1
              by_cases hm2 : m < 16 * k
              · have hm3 : (m : Int) < 16 * (k : Int) := by omega
                have hm4 : 8 * (n : Int) ≤ (fr : Int) + (m : Int) := by omega
                go_wp2_with fail
                refine Calls.mono HQ1.out ?_
                rintro e w5 ⟨rfl, hb5⟩
                have hB5 := hB.trans (hb5.mono hB.size)
                go_wp2_with fail
                refine (HQ2.out _ hB5).mono ?_
                rintro e w6 ⟨rfl, hb6⟩
                have hB6 := hB5.trans (hb6.mono hB5.size)
                clear HQ1 hb5 hb6
                go_wp2
                go_roundw
                case rel => exact ⟨k + 1, by omega, by omega, by go_num, hB6⟩
                case measure => simp [intOf]; omega
              · have hm3 : 16 * (k : Int) ≤ (m : Int) := by omega
                go_wp2_with fail
                refine Calls.mono HQ1.out ?_
                rintro e w5 ⟨rfl, hb5⟩
                have hB5 := hB.trans (hb5.mono hB.size)
                go_wp2_with fail
                refine (HQ2.out _ hB5).mono ?_
                rintro e w6 ⟨rfl, hb6⟩
                have hB6 := hB5.trans (hb6.mono hB5.size)
                clear HQ1 hb5 hb6
                go_wp2
                go_roundw
                case rel => exact ⟨k + 1, by omega, by omega, by go_num, hB6⟩
                case measure => simp [intOf]; omega
      · obtain rfl : k = 3 := by omega
        go_wp2
        go_ret
        exact ⟨rfl, hB⟩
end Go.Proofs.Ytjiljhijenbpbaa
