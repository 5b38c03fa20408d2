/-
  The walk of the law QueueRoom.
-/
import Derived.Test.YtjaeogaffdbpeaaNone
set_option linter.unusedVariables false
set_option linter.unusedSimpArgs false
namespace Go.Proofs.Ytjaeogaffdbpeaa.Own
open Go.RowKit

/-- A queue in which so many wait. -/
def QL (w : World) (q room m : Nat) (W : World) : Prop := (∃ ring ports fr L, QAt W q room ring ports fr L ∧ L.length = m) ∧ Below w.heap.size w W
theorem QL.put {w W : World} {q room m : Nat} (hq : w.heap.size ≤ q) (h : QL w q room m W) (hm : m < room) (p : Int) : Calls Try.prog 7 #[.pointer (some ⟨q, 0, none⟩), .agg #[.int .i64 p, .slice none 0 0]] W fun e w' => e = .returned (.int .i64 0) ∧ QL w q room (m + 1) w' := by
  obtain ⟨⟨ring, ports, fr, L, h1, rfl⟩, h2⟩ := h
  refine (Put_at W q room ring ports fr L h1 hm p none 0 0 [] (Reads.nil _ _) (by decide) (fun _ => rfl) (fun ad e => by cases e)).mono ?_
  rintro e w' ⟨rfl, ⟨ring', ports', h3⟩, h4⟩
  exact ⟨rfl, ⟨_, _, _, _, h3, by simp⟩, h2.trans (h4.below (fun i hi => by omega) h2.size)⟩
theorem QL.full {w W : World} {q room m : Nat} (h : QL w q room m W) (hm : room ≤ m) (p : Int) : Calls Try.prog 7 #[.pointer (some ⟨q, 0, none⟩), .agg #[.int .i64 p, .slice none 0 0]] W fun e w' => e = .returned (.int .i64 10) ∧ QL w q room m w' := by
  obtain ⟨⟨ring, ports, fr, L, h1, rfl⟩, h2⟩ := h
  refine (Put_full W q room ring ports fr _ h1.box hm p none 0 0).mono ?_
  rintro e w' ⟨rfl, h3⟩
  exact ⟨rfl, ⟨_, _, _, _, h1.below h3, rfl⟩, h2.trans (h3.mono h2.size)⟩
theorem QL.len {w W : World} {q room m : Nat} (h : QL w q room m W) : Calls Try.prog 10 #[.pointer (some ⟨q, 0, none⟩)] W fun e w' => e = .returned (.int .i64 (m : Int)) ∧ w' = W := by
  obtain ⟨⟨ring, ports, fr, L, h1, rfl⟩, h2⟩ := h
  exact Len_ok W q room ring ports fr _ h1.box
theorem QL.send {w W : World} {q room m : Nat} (hq : w.heap.size ≤ q) (h : QL w q room m W) (n : Nat) (hn : n ≤ 1000000) : Calls Try.prog 8 #[.pointer (some ⟨q, 0, none⟩), .int .i64 (n : Int)] W fun e w' => ∃ A, e = .returned (.tuple #[.slice A (min n m) (min n m), .int .i64 0]) ∧ QL w q room (m - n) w' := by
  obtain ⟨⟨ring, ports, fr, L, h1, rfl⟩, h2⟩ := h
  refine (Send_at W q room ring ports fr L h1 n hn).mono ?_
  rintro e w' ⟨A, rfl, _, ⟨ring', ports', fr', h3⟩, h4⟩
  exact ⟨A, rfl, ⟨_, _, _, _, h3, by simp⟩, h2.trans (h4.below (fun i hi => by omega) h2.size)⟩
theorem QL.le {w W : World} {q room m : Nat} (h : QL w q room m W) : m ≤ room ∧ room ≤ 64 := by
  obtain ⟨⟨ring, ports, fr, L, h1, rfl⟩, h2⟩ := h
  exact ⟨h1.hL, h1.hroom⟩
theorem QL.drew {w W : World} {q room m : Nat} (h : QL w q room m W) : QL w q room m W.drew := by
  obtain ⟨⟨ring, ports, fr, L, h1, h3⟩, h2⟩ := h
  exact ⟨⟨_, _, _, _, h1.below (Below.refl _ _).drew, h3⟩, h2.drew⟩

set_option maxRecDepth 100000 in
set_option maxHeartbeats 3200000 in
theorem room_law (A : Option Addr) (n c : Nat) (k : Nat) (hk : k ≤ 255) (xs : List Int) (w : World) (hR : Reads w .u8 A n xs) (hx : ∀ j, j < n → 0 ≤ xs.getD j 0 ∧ xs.getD j 0 ≤ 255) :
    Calls Try.prog 4 #[.int .u8 (k : Int), .slice A n c] w fun e w' => e = .returned (.bool true) ∧ Below w.heap.size w w' := by
  have hnm := hR.2.1
  obtain ⟨room, hroom⟩ : ∃ room, room = k % 65 := ⟨_, rfl⟩
  have hr64 : room ≤ 64 := by omega
  have HN := aside' (New_ok room hr64 w)
  have HQ0 := aside' (show QL w w.heap.size room 0 (w.alloc (.cells (qz (room : Int)) 43)) from ⟨⟨_, _, _, _, QAt.empty w room hr64, rfl⟩, (Below.refl w.heap.size w).alloc (Nat.le_refl _) _⟩)
  have hk0 : (0 : Int) ≤ (k : Int) := by omega
  have hk1 : (k : Int) ≤ 255 := by omega
  have hkr : (k : Int) % 65 = (room : Int) := by omega
  clear hroom
  by_cases hbig : 100 < n
  · have hd : decide (100 < (n : Int)) = true := decide_eq_true (by omega)
    clear hR
    go_enter Try.func4, Try.ntmps4
    go_wp2_with fail
    refine Calls.mono HN.out ?_
    rintro e w1 ⟨rfl, hw1⟩
    rw [← hw1] at HQ0
    clear hw1 HN
    go_wp2_with fail
    refine Calls.mono (lives_any _) ?_
    rintro e w2 ⟨rfl, hb2⟩
    go_wp2
    go_ret
    exact ⟨rfl, HQ0.out.2.trans (hb2.mono HQ0.out.2.size)⟩
  · have hd : decide (100 < (n : Int)) = false := decide_eq_false (by omega)
    have HR := aside' hR
    have HX := aside' hx
    clear hR hx
    go_enter Try.func4, Try.ntmps4
    go_wp2_with fail
    refine Calls.mono HN.out ?_
    rintro e w1 ⟨rfl, hw1⟩
    rw [← hw1] at HQ0
    clear hw1 HN
    go_wp2_with fail
    go_loopw [8] (fun i wr => ∃ j m : Nat, j ≤ n ∧ i = .int .i64 j ∧ Aside (QL w w.heap.size room m wr)) (fun i _ => n - (intOf i).toNat)
    case atStart => exact ⟨0, 0, Nat.zero_le _, rfl, HQ0.out⟩
    case round =>
      obtain ⟨j, m, hj, rfl, HS⟩ := hrel
      by_cases hlt : j < n
      · obtain ⟨xb, xo, rfl, hxlt, hcs⟩ := HR.out.plain (by omega)
        obtain ⟨b, hb⟩ : ∃ b : Nat, xs.getD j 0 = (b : Int) := ⟨(xs.getD j 0).toNat, by have := (HX.out j hlt).1; omega⟩
        have hb255 : b ≤ 255 := by have := (HX.out j hlt).2; omega
        have hcx := hcs j hlt
        rw [hb] at hcx
        have HCX := aside' (show ∀ V, Below w.heap.size w V → V.cell? ⟨xb, xo + j, none⟩ = some (.int .u8 (b : Int)) from fun V hV => (hV.cell (p := ⟨xb, xo + j, none⟩) hxlt).trans hcx)
        have hcr := HCX.out wr HS.out.2
        have hj0 : (0 : Int) ≤ (j : Int) := by omega
        have hj1 : (j : Int) < (n : Int) := by omega
        have hb0 : (0 : Int) ≤ (b : Int) := by omega
        have hb1 : (b : Int) ≤ 255 := by omega
        have HL := aside' HS.out.len
        clear hcs hcx hb
        go_wp2_with fail
        refine Calls.mono HL.out ?_
        rintro e w2 ⟨rfl, hw2⟩
        have hw2 := hw2.symm
        subst hw2
        clear HL hcr
        go_wp2_with fail
        go_loopw [10, 11] (fun d i wr => ∃ t s : Nat, t ≤ b ∧ i = .int .i64 t ∧ d = .int .i64 s ∧ Aside (QL w w.heap.size room (m + s) wr ∧ s = min t (room - m))) (fun _ i _ => b - (intOf i).toNat)
        case atStart => exact ⟨0, 0, Nat.zero_le _, rfl, rfl, HS.out, by simp⟩
        case round =>
          obtain ⟨t, s, ht, rfl, rfl, HT⟩ := hrel
          have hcr := HCX.out wr HT.out.1.2
          have hs := HT.out.2
          have hle := HT.out.1.le
          by_cases htb : t < b
          · have htd : decide ((t : Int) < (b : Int)) = true := decide_eq_true (by omega)
            by_cases hfull : room ≤ m + s
            · have HP := aside' (HT.out.1.full hfull (t : Int))
              have HFIN := aside' (show s = min (t + 1) (room - m) by omega)
              clear hs hle hfull
              go_wp2_with fail
              refine Calls.mono HP.out ?_
              rintro e w3 ⟨rfl, hq3⟩
              go_wp2
              go_roundw
              case rel => exact ⟨t + 1, s, by omega, by go_num, rfl, hq3, HFIN.out⟩
              case measure => (simp [intOf]; omega)
            · have HP := aside' (HT.out.1.put (Nat.le_refl _) (by omega) (t : Int))
              have hs64 : s ≤ 64 := by omega
              clear hs hle
              go_wp2_with fail
              refine Calls.mono HP.out ?_
              rintro e w3 ⟨rfl, hq3⟩
              go_wp2
              go_roundw
              case rel => exact ⟨t + 1, s + 1, by omega, by go_num, by go_num, hq3, by have := HT.out.2; omega⟩
              case measure => (simp [intOf]; omega)
          · obtain rfl : t = b := by omega
            have htd : decide ((t : Int) < (t : Int)) = false := decide_eq_false (by omega)
            have HS2 := aside' HT.out.1
            have HLN := aside' HT.out.1.len
            have HSE := aside' (HT.out.1.send (Nat.le_refl _) (t / 2) (by omega))
            have hsub : IntKind.i64.wrap ((room : Int) - (m : Int)) = (room : Int) - (m : Int) := by rw [IntKind.wrap_i64]; omega
            obtain ⟨d, hd2⟩ : ∃ d : Nat, (room : Int) - (m : Int) = (d : Int) := ⟨room - m, by omega⟩
            have hsd : s = min t d := by omega
            have hms : IntKind.i64.wrap ((m : Int) + (s : Int)) = ((m + s : Nat) : Int) := by rw [IntKind.wrap_i64]; omega
            have hms2 : (m : Int) + (s : Int) = ((m + s : Nat) : Int) := by omega
            have hq2 : (t : Int) / 2 = ((t / 2 : Nat) : Int) := by omega
            have hq3 : (t : Int).tdiv 2 = ((t / 2 : Nat) : Int) := by rw [Int.tdiv_eq_ediv_of_nonneg (by omega)]; omega
            have hms64 : m + s ≤ 64 := by omega
            obtain ⟨ms, hmsn⟩ : ∃ ms, ms = m + s := ⟨_, rfl⟩
            obtain ⟨th, hth⟩ : ∃ th, th = t / 2 := ⟨_, rfl⟩
            rw [← hmsn] at hms hms2 HLN HSE HS2 hms64
            rw [← hth] at hq2 hq3 HSE
            have hth255 : th ≤ 127 := by omega
            by_cases hdt : d < t
            · have g1 : decide ((d : Int) < (t : Int)) = true := decide_eq_true (by omega)
              have g2 := eq_true (by omega : (d : Int) < (t : Int))
              obtain rfl : s = d := by omega
              clear hs hle HS2 HT hsd hmsn hth
              by_cases hmt : ms < th
              · skip
                have m1 : decide ((ms : Int) < (th : Int)) = true := decide_eq_true (by omega)
                have m2 := eq_true (by omega : (ms : Int) < (th : Int))
                have hkk : min th ms = ms := by omega
                rw [hkk] at HSE
                clear hkk
                go_wp2_with fail
                refine Calls.mono HLN.out ?_
                rintro e w4 ⟨rfl, hw4⟩
                have hw4 := hw4.symm
                subst hw4
                go_wp2_with fail
                refine Calls.mono HSE.out ?_
                rintro e w5 ⟨A5, rfl, hq5⟩
                have hcr5 := HCX.out w5 hq5.2
                have HQ5 := aside' hq5
                clear hq5 hcr
                go_wp2_with fail
                go_roundw
                case rel => exact ⟨j + 1, ms - th, by omega, by go_num, HQ5.out⟩
                case measure => (simp [intOf]; omega)
              · skip
                have m1 : decide ((ms : Int) < (th : Int)) = false := decide_eq_false (by omega)
                have m2 := eq_false (by omega : ¬ (ms : Int) < (th : Int))
                have hkk : min th ms = th := by omega
                rw [hkk] at HSE
                clear hkk
                go_wp2_with fail
                refine Calls.mono HLN.out ?_
                rintro e w4 ⟨rfl, hw4⟩
                have hw4 := hw4.symm
                subst hw4
                go_wp2_with fail
                refine Calls.mono HSE.out ?_
                rintro e w5 ⟨A5, rfl, hq5⟩
                have hcr5 := HCX.out w5 hq5.2
                have HQ5 := aside' hq5
                clear hq5 hcr
                go_wp2_with fail
                go_roundw
                case rel => exact ⟨j + 1, ms - th, by omega, by go_num, HQ5.out⟩
                case measure => (simp [intOf]; omega)
            · have g1 : decide ((d : Int) < (t : Int)) = false := decide_eq_false (by omega)
              have g2 := eq_false (by omega : ¬ (d : Int) < (t : Int))
              obtain rfl : s = t := by omega
              clear hs hle HS2 HT hsd hmsn hth
              by_cases hmt : ms < th
              · skip
                have m1 : decide ((ms : Int) < (th : Int)) = true := decide_eq_true (by omega)
                have m2 := eq_true (by omega : (ms : Int) < (th : Int))
                have hkk : min th ms = ms := by omega
                rw [hkk] at HSE
                clear hkk
                go_wp2_with fail
                refine Calls.mono HLN.out ?_
                rintro e w4 ⟨rfl, hw4⟩
                have hw4 := hw4.symm
                subst hw4
                go_wp2_with fail
                refine Calls.mono HSE.out ?_
                rintro e w5 ⟨A5, rfl, hq5⟩
                have hcr5 := HCX.out w5 hq5.2
                have HQ5 := aside' hq5
                clear hq5 hcr
                go_wp2_with fail
                go_roundw
                case rel => exact ⟨j + 1, ms - th, by omega, by go_num, HQ5.out⟩
                case measure => (simp [intOf]; omega)
              · skip
                have m1 : decide ((ms : Int) < (th : Int)) = false := decide_eq_false (by omega)
                have m2 := eq_false (by omega : ¬ (ms : Int) < (th : Int))
                have hkk : min th ms = th := by omega
                rw [hkk] at HSE
                clear hkk
                go_wp2_with fail
                refine Calls.mono HLN.out ?_
                rintro e w4 ⟨rfl, hw4⟩
                have hw4 := hw4.symm
                subst hw4
                go_wp2_with fail
                refine Calls.mono HSE.out ?_
                rintro e w5 ⟨A5, rfl, hq5⟩
                have hcr5 := HCX.out w5 hq5.2
                have HQ5 := aside' hq5
                clear hq5 hcr
                go_wp2_with fail
                go_roundw
                case rel => exact ⟨j + 1, ms - th, by omega, by go_num, HQ5.out⟩
                case measure => (simp [intOf]; omega)
      · obtain rfl : j = n := by omega
        go_wp2_with fail
        refine Calls.mono (lives_any _) ?_
        rintro e w3 ⟨rfl, hb3⟩
        go_wp2
        go_ret
        exact ⟨rfl, HS.out.2.trans (hb3.mono HS.out.2.size)⟩
end Go.Proofs.Ytjaeogaffdbpeaa.Own
