/-
  The walk of the law QueueOrder.
-/
import Derived.Test.YtjaeogaffdbpeaaNone
import Derived.Test.YtjaeogaffdbpeaaClassRegion
import Derived.Deep.DeepCutAuto
set_option linter.unusedVariables false
set_option linter.unusedSimpArgs false
namespace Go.Proofs.Ytjaeogaffdbpeaa.Own
open Go.RowKit

/-- The copies of the first so many. -/
def firsts (xss : List (List Int)) (N : Nat) : List Cp := (List.range N).map fun j : Nat => ((j : Int), xss.getD j [])
theorem firsts_length (xss : List (List Int)) (N : Nat) : (firsts xss N).length = N := by simp [firsts]
theorem firsts_succ (xss : List (List Int)) (N : Nat) : firsts xss (N + 1) = firsts xss N ++ [((N : Int), xss.getD N [])] := by simp [firsts, List.range_succ]
theorem firsts_get (xss : List (List Int)) (N j : Nat) (h : j < N) : (firsts xss N).getD j zCp = ((j : Int), xss.getD j []) := by
  simp [firsts, List.getD_eq_getElem?_getD, h]
/-- A queue in which these wait. -/
def QW (w : World) (room : Nat) (L : List Cp) (W : World) : Prop := (∃ ring ports fr, QAt W w.heap.size room ring ports fr L) ∧ Below w.heap.size w W
theorem QW.below {w W W' : World} {room : Nat} {L : List Cp} (h : QW w room L W) (hb : Below W.heap.size W W') : QW w room L W' := by
  obtain ⟨⟨ring, ports, fr, h1⟩, h2⟩ := h
  exact ⟨⟨_, _, _, h1.below hb⟩, h2.trans (hb.mono h2.size)⟩
theorem QW.put {w W : World} {room : Nat} {L : List Cp} (h : QW w room L W) (hm : L.length < room) (p : Int) (A : Option Addr) (m c : Nat) (xs : List Int) (hS : Reads W .u8 A m xs) (hl : m ≤ 140737488351232) (hA : A = none → c = 0) (hAq : ∀ ad, A = some ad → 0 < m → ad.block < w.heap.size) : Calls Try.prog 7 #[.pointer (some ⟨w.heap.size, 0, none⟩), .agg #[.int .i64 p, .slice A m c]] W fun e w' => e = .returned (.int .i64 0) ∧ QW w room (L ++ [(p, xs)]) w' := by
  obtain ⟨⟨ring, ports, fr, h1⟩, h2⟩ := h
  refine (Put_at W w.heap.size room ring ports fr L h1 hm p A m c xs hS hl hA (fun ad e h0 => Nat.ne_of_lt (hAq ad e h0))).mono ?_
  rintro e w' ⟨rfl, ⟨ring', ports', h3⟩, h4⟩
  exact ⟨rfl, ⟨_, _, _, h3⟩, h2.trans (h4.below (fun i hi => by omega) h2.size)⟩
theorem QW.full {w W : World} {room : Nat} {L : List Cp} (h : QW w room L W) (hm : room ≤ L.length) (p : Int) : Calls Try.prog 7 #[.pointer (some ⟨w.heap.size, 0, none⟩), .agg #[.int .i64 p, .slice none 0 0]] W fun e w' => e = .returned (.int .i64 10) ∧ QW w room L w' := by
  obtain ⟨⟨ring, ports, fr, h1⟩, h2⟩ := h
  refine (Put_full W _ room ring ports fr _ h1.box hm p none 0 0).mono ?_
  rintro e w' ⟨rfl, h3⟩
  exact ⟨rfl, ⟨_, _, _, h1.below h3⟩, h2.trans (h3.mono h2.size)⟩
theorem QW.len {w W : World} {room : Nat} {L : List Cp} (h : QW w room L W) : Calls Try.prog 10 #[.pointer (some ⟨w.heap.size, 0, none⟩)] W fun e w' => e = .returned (.int .i64 (L.length : Int)) ∧ w' = W := by
  obtain ⟨⟨ring, ports, fr, h1⟩, h2⟩ := h
  exact Len_ok W _ room ring ports fr _ h1.box
theorem QW.send {w W : World} {room : Nat} {L : List Cp} (h : QW w room L W) (n : Nat) (hn : n ≤ 1000000) : Calls Try.prog 8 #[.pointer (some ⟨w.heap.size, 0, none⟩), .int .i64 (n : Int)] W fun e w' => ∃ A, e = .returned (.tuple #[.slice A (min n L.length) (min n L.length), .int .i64 0]) ∧ QW w room (L.drop n) w' ∧ CpsAt w' w.heap.size A (L.take n) := by
  obtain ⟨⟨ring, ports, fr, h1⟩, h2⟩ := h
  refine (Send_at W _ room ring ports fr L h1 n hn).mono ?_
  rintro e w' ⟨A, rfl, hc, ⟨ring', ports', fr', h3⟩, h4⟩
  exact ⟨A, rfl, ⟨⟨_, _, _, h3⟩, h2.trans (h4.below (fun i hi => by omega) h2.size)⟩, hc⟩
theorem CpsAt.drewN {w : World} {q : Nat} {A : Option Addr} {L : List Cp} (h : CpsAt w q A L) (k : Nat) : CpsAt (w.drewN k) q A L :=
  ⟨h.ad, fun g hA j hj => by
    obtain ⟨h1, v, h2, B, h3, h4, h5⟩ := h.at_ g hA j hj
    exact ⟨h1, v, h2, B, h3, h4, h5⟩⟩
set_option maxRecDepth 100000 in
set_option maxHeartbeats 6400000 in
theorem order_law (A : Option Addr) (n0 c : Nat) (xss : List (List Int)) (B : Option Addr) (m d : Nat) (ys : List Int) (w : World) (hnc : n0 ≤ c) (hR : ReadsRows w A n0 xss) (hY : Reads w .u8 B m ys) (hy : ∀ j, j < m → 0 ≤ ys.getD j 0 ∧ ys.getD j 0 ≤ 255) :
    Calls Try.prog 3 #[.slice A n0 c, .slice B m d] w fun e w' => e = .returned (.bool true) ∧ Below w.heap.size w w' := by
  have hnm := hR.2.1
  have HY := aside' hY
  have HH := aside' hy
  have hmm := hY.2.1
  have HR0 := aside' hR
  clear hR hY hy
  go_enter Try.func3, Try.ntmps3
  go_upto_if 16 with fail
  go_cut [0] (fun s0 wx => ∃ n : Nat, n ≤ 64 ∧ n ≤ n0 ∧ s0 = .slice A n c ∧ w = wx)
  case first =>
    by_cases hbig : 64 < n0
    · have hd : decide (64 < (n0 : Int)) = true := decide_eq_true (by omega)
      have hc64 : (64 : Int) ≤ (c : Int) := by omega
      go_wp2_with fail
      go_meet
      exact ⟨64, Nat.le_refl _, by omega, rfl, rfl⟩
    · have hd : decide (64 < (n0 : Int)) = false := decide_eq_false (by omega)
      go_wp2_with fail
      go_meet
      exact ⟨n0, by omega, Nat.le_refl _, rfl, rfl⟩
  case rest =>
    obtain ⟨n, hn64, hn0, rfl, rfl⟩ := hcut
    have HR := aside' (show ∀ (h : 0 < n), ∃ b off, A = some ⟨b, off, none⟩ ∧ b < w.heap.size ∧ ∀ j, j < n → ∃ B m c, w.cell? ⟨b, off + j, none⟩ = some (.slice B m c) ∧ m ≤ 140737488351232 ∧ (B = none → c = 0) ∧ Reads w .u8 B m (xss.getD j []) from fun h => by
      obtain ⟨b, off, h1, h2, h3⟩ := HR0.out.2.2 (by omega)
      exact ⟨b, off, h1, h2, fun j hj => h3 j (by omega)⟩)
    have hnm : n ≤ 9223372036854775807 := by omega
    clear HR0 hnc
    have HN := aside' (New_ok n hn64 w)
    have HQ0 := aside' (show QW w n [] (w.alloc (.cells (qz (n : Int)) 43)) from ⟨⟨_, _, _, QAt.empty w n hn64⟩, (Below.refl w.heap.size w).alloc (Nat.le_refl _) _⟩)
    go_wp2_with fail
    refine Calls.mono HN.out ?_
    rintro e w1 ⟨rfl, hw1⟩
    rw [← hw1] at HQ0
    clear hw1 HN
    go_wp2_with fail
    go_loopw [7] (fun i wr => ∃ j : Nat, j ≤ n ∧ i = .int .i64 j ∧ Aside (QW w n (firsts xss j) wr)) (fun i _ => n - (intOf i).toNat)
    case atStart => exact ⟨0, Nat.zero_le _, rfl, HQ0.out⟩
    case round =>
      obtain ⟨j, hj, rfl, HS⟩ := hrel
      by_cases hlt : j < n
      · obtain ⟨b, off, hA, hb, hcs⟩ := HR.out (by omega)
        obtain ⟨B', m', d', hcell, hm', hd', hrd⟩ := hcs j hlt
        subst hA
        have hcw := (HS.out.2.cell (p := ⟨b, off + j, none⟩) hb).trans hcell
        have hj0 : (0 : Int) ≤ (j : Int) := by omega
        have hj1 : (j : Int) < (n : Int) := by omega
        have HP := aside' (HS.out.put (by rw [firsts_length]; exact hlt) (j : Int) B' m' d' (xss.getD j []) (hrd.below HS.out.2) hm' hd' (fun ad e h0 => hrd.block_lt ad e h0))
        rw [← firsts_succ] at HP
        clear hcs hcell hrd
        go_wp2_with fail
        refine Calls.mono HP.out ?_
        rintro e w2 ⟨rfl, hq2⟩
        go_wp2
        go_roundw
        case rel => exact ⟨j + 1, by omega, by go_num, hq2⟩
        case measure => (simp [intOf]; omega)
      · have hjn : n = j := by omega
        subst hjn
        have HP := aside' (HS.out.full (by rw [firsts_length]; exact Nat.le_refl _) 0)
        go_wp2_with fail
        refine Calls.mono HP.out ?_
        rintro e w2 ⟨rfl, hq2⟩
        have HQ2 := aside' hq2
        clear hq2 HP
        go_wp2_with fail
        obtain ⟨M, hM⟩ : ∃ M, M = min m 299 + 1 := ⟨_, rfl⟩
        have HMM := aside' hM
        clear hM
        go_loopw [8, 9] (fun v8 v9 wr => ∃ i a : Nat, i ≤ M ∧ v9 = .int .i64 i ∧ v8 = .int .i64 a ∧ Aside (a ≤ n ∧ QW w n ((firsts xss n).drop a) wr ∧ (i = M → a = n))) (fun _ i _ => M - (intOf i).toNat)
        case atStart => exact ⟨0, 0, Nat.zero_le _, rfl, rfl, Nat.zero_le _, HQ2.out, fun h => by have := HMM.out; omega⟩
        case round =>
          obtain ⟨i, a, hi, rfl, rfl, HI⟩ := hrel
          have hM := HMM.out
          have han := HI.out.1
          by_cases hiM : i < M
          · have g1 : decide ((i : Int) ≤ (m : Int)) = true := decide_eq_true (by omega)
            have g2 : decide ((i : Int) < 300) = true := decide_eq_true (by omega)
            go_upto_region 18 with fail
            go_cut [63] (fun s63 wx => ∃ bb : Bool, s63 = .bool bb ∧ wr = wx ∧ (bb = true → i < m ∧ i < 299) ∧ (bb = false → ¬ (i < m ∧ i < 299)))
            case first =>
              by_cases him : i < m
              · have g3 : decide ((i : Int) < (m : Int)) = true := decide_eq_true (by omega)
                have g5 := eq_true (by omega : i < m)
                by_cases him2 : i < 299
                · have g4 : decide ((i : Int) < 299) = true := decide_eq_true (by omega)
                  have g6 := eq_true (by omega : i < 299)
                  go_wp2_with fail
                  go_meet
                  exact ⟨true, rfl, rfl, fun _ => ⟨him, him2⟩, (fun h => by cases h)⟩
                · have g4 : decide ((i : Int) < 299) = false := decide_eq_false (by omega)
                  have g6 := eq_false (by omega : ¬ i < 299)
                  go_wp2_with fail
                  go_meet
                  exact ⟨false, rfl, rfl, (fun h => by cases h), fun _ h => him2 h.2⟩
              · have g3 : decide ((i : Int) < (m : Int)) = false := decide_eq_false (by omega)
                have g5 := eq_false (by omega : ¬ i < m)
                go_wp2_with fail
                go_meet
                exact ⟨false, rfl, rfl, (fun h => by cases h), fun _ h => him h.1⟩
            case rest =>
            obtain ⟨bb, rfl, rfl, hb1, hb2⟩ := hcut
            go_upto_if 63 with fail
            go_cut [10] (fun s10 wx => ∃ s : Nat, s ≤ 64 ∧ s10 = .int .i64 (s : Int) ∧ wr = wx ∧ (i + 1 = M → a + min s (n - a) = n))
            case first =>
              cases bb with
              | true =>
                have him := hb1 rfl
                clear hb1 hb2
                obtain ⟨yb, yo, rfl, hylt, hycs⟩ := HY.out.plain (by omega)
                have hyi := HH.out i him.1
                obtain ⟨y, hyv⟩ : ∃ y : Nat, ys.getD i 0 = (y : Int) := ⟨(ys.getD i 0).toNat, by omega⟩
                have hcy := (HI.out.2.1.2.cell (p := ⟨yb, yo + i, none⟩) hylt).trans (hycs i him.1)
                rw [hyv] at hcy hyi
                have hi0 : (0 : Int) ≤ (i : Int) := by omega
                have hi1 : (i : Int) < (m : Int) := by omega
                have hs5 : (y : Int) % 5 = ((y % 5 : Nat) : Int) := by omega
                have hs6 : (y : Int).tmod 5 = ((y % 5 : Nat) : Int) := by rw [Int.tmod_eq_emod_of_nonneg (by omega)]; omega
                have HNX := aside' (show i + 1 = M → a + min (y % 5) (n - a) = n from fun h => by omega)
                have hsb : y % 5 ≤ 64 := by omega
                clear hycs hyv hM him
                obtain ⟨s, hs⟩ : ∃ s, s = y % 5 := ⟨_, rfl⟩
                rw [← hs] at hs5 hs6 HNX hsb
                clear hs
                go_wp2_with fail
                go_meet
                exact ⟨s, hsb, rfl, rfl, HNX.out⟩
              | false =>
                have him := hb2 rfl
                have HNX := aside' (show i + 1 = M → a + min 64 (n - a) = n from fun h => by omega)
                clear hb1 hb2 him hM
                go_wp2_with fail
                go_meet
                exact ⟨64, Nat.le_refl _, rfl, rfl, HNX.out⟩
            case rest =>
              obtain ⟨s, hsb, rfl, rfl, hnx⟩ := hcut
              have HNX := aside' hnx
              have hM3 : M ≤ 300 := by omega
              clear hnx hM g1 g2 hb1 hb2
              have HSE := aside' (HI.out.2.1.send s (by omega))
              rw [List.length_drop, firsts_length] at HSE
              obtain ⟨kk, hkk⟩ : ∃ kk, kk = min s (n - a) := ⟨_, rfl⟩
              rw [← hkk] at HSE
              have HKK := aside' hkk
              have hks : decide ((s : Int) < (kk : Int)) = false := decide_eq_false (by omega)
              have hks2 := eq_false (by omega : ¬ s < kk)
              have hks3 : decide (s < kk) = false := decide_eq_false (by omega)
              have hks4 := eq_false (by omega : ¬ (s : Int) < (kk : Int))
              have hkn : a + kk ≤ n := by omega
              clear hkk
              go_wp2_with fail
              refine Calls.mono HSE.out ?_
              rintro e w3 ⟨A3, rfl, hq3, hc3⟩
              have HQ3 := aside' hq3
              have HC3 := aside' hc3
              clear hq3 hc3 HSE
              go_wp2_with fail
              go_loopw [8, 13] (fun v8 v13 wr => ∃ t : Nat, t ≤ kk ∧ v13 = .int .i64 t ∧ v8 = .int .i64 ((a + t : Nat) : Int) ∧ Aside (∃ q, wr = w3.drewN q)) (fun _ t _ => kk - (intOf t).toNat)
              case atStart => exact ⟨0, Nat.zero_le _, rfl, by simp, 0, rfl⟩
              case round =>
                obtain ⟨t, ht, rfl, rfl, q, rfl⟩ := hrel
                by_cases htk : t < kk
                · have hlt_ : t < (((firsts xss n).drop a).take s).length := by rw [List.length_take, List.length_drop, firsts_length]; have := HKK.out; omega
                  have hget : (((firsts xss n).drop a).take s).getD t zCp = (((a + t : Nat) : Int), xss.getD (a + t) []) := by
                    rw [← firsts_get xss n (a + t) (by omega)]
                    simp only [List.getD_eq_getElem?_getD, List.getElem?_take, List.getElem?_drop, if_pos (show t < s by have := HKK.out; omega)]
                  obtain ⟨g, rfl, hg1, hg2⟩ := HC3.out.ad (by omega)
                  obtain ⟨c1, v, c2, B2, hv, hrd2, _⟩ := HC3.out.at_ g rfl t hlt_
                  rw [hget] at c1 hv hrd2
                  simp only at c1 hv hrd2
                  subst hv
                  rw [Nat.mul_comm 2 t] at c1 c2
                  obtain ⟨xb, xo, rfl, hxlt, hxcs⟩ := HR.out (by omega)
                  obtain ⟨B4, m4, d4, c4, _, _, hrd4⟩ := hxcs (a + t) (by omega)
                  have c4' := (HQ3.out.2.cell (p := ⟨xb, xo + (a + t), none⟩) hxlt).trans c4
                  have HSAME := aside' (fun V (h : ∃ q, V = w3.drewN q) => same_bytes B2 B4 _ (xss.getD (a + t) []).length m4 d4 (xss.getD (a + t) []) (xss.getD (a + t) []) V (by obtain ⟨q, rfl⟩ := h; exact hrd2) (by obtain ⟨q, rfl⟩ := h; exact hrd4.below (below_drewN HQ3.out.2 q)))
                  have HSM := aside' (show ∀ V, (∃ q, V = w3.drewN q) → Calls Try.prog 9 #[.slice B2 (xss.getD (a + t) []).length (xss.getD (a + t) []).length, .slice B4 m4 d4] V (fun e w' => e = .returned (.bool true) ∧ ∃ q, w' = w3.drewN q) from fun V h => (HSAME.out V h).mono (fun e w' ⟨he, q2, hq2⟩ => ⟨by rw [he, decide_eq_true rfl], by obtain ⟨q1, rfl⟩ := h; exact ⟨_, hq2.trans (World.drewN_drewN ..)⟩⟩))
                  obtain ⟨at_, hat⟩ : ∃ at_, at_ = a + t := ⟨_, rfl⟩
                  rw [← hat] at c1 c2 c4' HSM hget
                  rw [← hat]
                  generalize (xss.getD at_ []).length = ln at *
                  have i0 : (0 : Int) ≤ (t : Int) := by omega
                  have i1 : (t : Int) < (kk : Int) := by omega
                  have i2 : (0 : Int) ≤ (at_ : Int) := by omega
                  have i3 : (at_ : Int) < (n : Int) := by omega
                  have i4 := eq_false (by omega : ¬ (n : Int) ≤ (at_ : Int))
                  have i5 := eq_false (by omega : ¬ n ≤ at_)
                  have i6 : decide ((n : Int) ≤ (at_ : Int)) = false := decide_eq_false (by omega)
                  have i7 : (at_ : Int) ≤ 64 := by omega
                  have HAT := aside' (And.intro hat htk)
                  clear HSAME hget hlt_ hrd2 hrd4 hxcs c4 hat
                  obtain ⟨C, HF⟩ : ∃ C : World → Prop, Aside (∀ W, C W ↔ (W.cell? ⟨g, t * 2, none⟩ = some (.int .i64 (at_ : Int)) ∧ W.cell? ⟨g, t * 2 + 1, none⟩ = some (.slice B2 ln ln) ∧ W.cell? ⟨xb, xo + at_, none⟩ = some (.slice B4 m4 d4) ∧ ∃ q, W = w3.drewN q)) := ⟨_, fun W => Iff.rfl⟩
                  have HCQ := aside' (show ∀ q, C (w3.drewN q) from fun q => (HF.out _).2 ⟨c1, c2, c4', q, rfl⟩)
                  clear c1 c2 c4'
                  go_wp2_with fail
                  refine region_class C (by kernel_rfl) (by kernel_rfl) (HCQ.out (q + 1)) ?_
                  repeat
                    (first
                      | go_big_quiet_skip
                      | (go_big_quiet_want; first
                          | (go_big_quiet_op; go_big_quiet_on)
                          | (unfold Oper.quiet; apply Exists.intro; refine ⟨fun W hW => ?_, ?_⟩
                             · obtain ⟨k0, k1, k2, k3⟩ := (HF.out W).1 hW
                               go_simp
                               first
                                 | with_reducible rfl
                                 | (go_at_call 9; refine Calls.mono (HSM.out _ k3) ?_; rintro e w5 ⟨he, q5, hq5⟩; exact ⟨he, by rw [hq5]; exact HCQ.out q5⟩)
                             go_simp
                             go_big_quiet_on)))
                  refine wpQuiet_nil ?_
                  intro W' hW'
                  obtain ⟨_, _, _, q5, hq5⟩ := (HF.out W').1 hW'
                  clear hW' HF HCQ
                  go_wp2
                  go_roundw
                  case rel => exact ⟨t + 1, by have := HAT.out.2; omega, by go_num, by have := HAT.out.1; go_num, q5, by first | exact hq5 | rfl⟩
                  case measure => have := HAT.out.2; (simp [intOf]; omega)
                · have htk2 : t = kk := by omega
                  subst htk2
                  have hdr : ((firsts xss n).drop a).drop s = (firsts xss n).drop (a + t) := by
                    rw [List.drop_drop]
                    have hK := HKK.out
                    by_cases hsn : s ≤ n - a
                    · rw [show a + t = a + s by omega]
                    · rw [List.drop_eq_nil_of_le (by rw [firsts_length]; omega), List.drop_eq_nil_of_le (by rw [firsts_length]; omega)]
                  have HQ4 := aside' (show QW w n ((firsts xss n).drop (a + t)) (w3.drewN q) from hdr ▸ HQ3.out.below (below_drewN (Below.refl _ _) q))
                  have HN4 := aside' (show i + 1 = M → a + t = n from fun h => by have := HNX.out h; have := HKK.out; omega)
                  clear hdr
                  go_wp2
                  go_roundw
                  case rel => exact ⟨i + 1, a + t, by omega, by go_num, rfl, hkn, HQ4.out, HN4.out⟩
                  case measure => (simp [intOf]; omega)
          · have hiM2 : M = i := by omega
            have ha : a = n := HI.out.2.2 hiM2.symm
            by_cases him : i ≤ m
            · have g1 : decide ((i : Int) ≤ (m : Int)) = true := decide_eq_true (by omega)
              have g2 : decide ((i : Int) < 300) = false := decide_eq_false (by omega)
              have HL := aside' HI.out.2.1.len
              rw [List.drop_eq_nil_of_le (by rw [firsts_length]; omega)] at HL
              have HBW := aside' HI.out.2.1.2
              have hne : ((a : Int) == (n : Int)) = true := by simp; omega
              rw [ha]
              clear hM han ha hne
              go_wp2_with fail
              refine Calls.mono HL.out ?_
              rintro e w4 ⟨rfl, hw4⟩
              have hw4 := hw4.symm
              subst hw4
              go_wp2_with fail
              refine Calls.mono (lives_any _) ?_
              rintro e w5 ⟨rfl, hb5⟩
              go_wp2
              go_ret
              exact ⟨rfl, HBW.out.trans (hb5.mono HBW.out.size)⟩
            · have g1 : decide ((i : Int) ≤ (m : Int)) = false := decide_eq_false (by omega)
              have HL := aside' HI.out.2.1.len
              rw [List.drop_eq_nil_of_le (by rw [firsts_length]; omega)] at HL
              have HBW := aside' HI.out.2.1.2
              have hne : ((a : Int) == (n : Int)) = true := by simp; omega
              rw [ha]
              clear hM han ha hne
              go_wp2_with fail
              refine Calls.mono HL.out ?_
              rintro e w4 ⟨rfl, hw4⟩
              have hw4 := hw4.symm
              subst hw4
              go_wp2_with fail
              refine Calls.mono (lives_any _) ?_
              rintro e w5 ⟨rfl, hb5⟩
              go_wp2
              go_ret
              exact ⟨rfl, HBW.out.trans (hb5.mono HBW.out.size)⟩
end Go.Proofs.Ytjaeogaffdbpeaa.Own
