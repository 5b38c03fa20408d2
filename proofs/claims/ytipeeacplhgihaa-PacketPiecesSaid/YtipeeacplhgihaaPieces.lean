/-
  The walk of the law PacketPieces.
-/
import Derived.Test.YtipeeacplhgihaaBack
import Derived.Test.YtipeeacplhgihaaDo
set_option linter.unusedVariables false
set_option linter.unusedSimpArgs false
namespace Go.Proofs.Ytipeeacplhgihaa
open Go.RowKit PkMath

theorem bytes_of' {xs : List Int} {n : Nat} (hl : xs.length = n) (h : ∀ j, j < n → 0 ≤ xs.getD j 0 ∧ xs.getD j 0 ≤ 255) : ∀ j, 0 ≤ xs.getD j 0 ∧ xs.getD j 0 ≤ 255 := by
  intro j
  by_cases hj : j < n
  · exact h j hj
  · rw [List.getD_eq_getElem?_getD, List.getElem?_eq_none (by omega)]
    exact ⟨by decide, by decide⟩
/-- A cursor stays while another one is written. -/
theorem CurAt.foot {base b : Nat} {w w' : World} {g h a c : Nat} {zs ys : List Int} (k : CurAt base w g zs a) (o : CurAt b w h ys c) (hne : g ≠ h) (hf : Foot (fun i => i = h) w w') : CurAt base w' g zs a := by
  obtain ⟨h1, h2, h3, A, d, h4, h5, h6⟩ := k
  obtain ⟨_, _, _, B, e, o4, _⟩ := o
  refine ⟨h1, h2, h3, A, d, hf.blk h4 hne, hf.own h5 ?_, h6⟩
  rintro q hq rfl
  rcases h5.2 with ⟨e1, _⟩ | ⟨r, cap, cur, e1, _, hr, _⟩
  · rw [e1] at hq; simp [Value.ownBlock] at hq
  · rw [e1] at hq
    have e2 : r = q := by simpa [Value.ownBlock] using hq
    subst e2
    rw [hr] at o4
    injection o4 with o4
    injection o4 with _ o4 _
    exact absurd o4 (by decide)
structure PP (w : World) (g h : Nat) (zs : List Int) (w0 w1 : Int) (a b : Nat) (W : World) : Prop where
  c1 : CurAt (w.heap.size + 1) W g zs a
  c2 : CurAt (w.heap.size + 1) W h zs b
  ne : g ≠ h
  bx : W.heap[w.heap.size]? = some (.cells #[.int .i64 w0, .int .i64 w1] 41 (0, 0))
  below : Below w.heap.size w W
section
variable {w : World} {g h : Nat} {zs : List Int} {w0 w1 : Int} {a b : Nat} {W W' : World}
theorem PP.next (k : PP w g h zs w0 w1 a b W) (hb : Below W.heap.size W W') : PP w g h zs w0 w1 a b W' :=
  ⟨k.c1.below hb, k.c2.below hb, k.ne, (hb.block _ (Array.getElem?_eq_some_iff.1 k.bx).1).trans k.bx, k.below.trans (hb.mono k.below.size)⟩
theorem PP.alloc (k : PP w g h zs w0 w1 a b W) (o : Obj) : PP w g h zs w0 w1 a b (W.alloc o) := k.next ((Below.refl _ _).alloc (Nat.le_refl _) _)
theorem PP.drewN (k : PP w g h zs w0 w1 a b W) (q : Nat) : PP w g h zs w0 w1 a b (W.drewN q) := k.next (below_drewN (Below.refl _ _) q)
theorem PP.take1 (hz : ∀ j, 0 ≤ zs.getD j 0 ∧ zs.getD j 0 ≤ 255) (k : PP w g h zs w0 w1 a b W) (wd : Nat) (h1 : 1 ≤ wd) (h2 : wd ≤ 128) (h3 : a + wd ≤ 8 * zs.length) :
    Calls Try.prog 9 #[.pointer (some ⟨g, 0, none⟩), .int .i64 (wd : Int)] W fun e W' => e = .returned (.tuple #[.agg #[.int .i64 (wd : Int), .int .u64 (hiOf (numOf (win (bitsL zs) a wd))), .int .u64 (loOf (numOf (win (bitsL zs) a wd)))], .int .i64 0]) ∧ PP w g h zs w0 w1 (a + wd) b W' ∧ Foot (fun i => i = g) W W' :=
  (Take_ok hz k.c1 wd h1 h2 h3).mono fun e W' ⟨he, hc, hf⟩ => ⟨he, ⟨hc, k.c2.foot k.c1 (Ne.symm k.ne) hf, k.ne, hf.blk k.bx (by have := k.c1.1; show ¬ w.heap.size = g; omega), k.below.trans (hf.below (fun i hi => by subst hi; have := k.c1.1; omega) k.below.size)⟩, hf⟩
theorem PP.take2 (hz : ∀ j, 0 ≤ zs.getD j 0 ∧ zs.getD j 0 ≤ 255) (k : PP w g h zs w0 w1 a b W) (wd : Nat) (h1 : 1 ≤ wd) (h2 : wd ≤ 128) (h3 : b + wd ≤ 8 * zs.length) :
    Calls Try.prog 9 #[.pointer (some ⟨h, 0, none⟩), .int .i64 (wd : Int)] W fun e W' => e = .returned (.tuple #[.agg #[.int .i64 (wd : Int), .int .u64 (hiOf (numOf (win (bitsL zs) b wd))), .int .u64 (loOf (numOf (win (bitsL zs) b wd)))], .int .i64 0]) ∧ PP w g h zs w0 w1 a (b + wd) W' ∧ Foot (fun i => i = h) W W' :=
  (Take_ok hz k.c2 wd h1 h2 h3).mono fun e W' ⟨he, hc, hf⟩ => ⟨he, ⟨k.c1.foot k.c2 k.ne hf, hc, k.ne, hf.blk k.bx (by have := k.c2.1; show ¬ w.heap.size = h; omega), k.below.trans (hf.below (fun i hi => by subst hi; have := k.c2.1; omega) k.below.size)⟩, hf⟩
theorem PP.short1 (k : PP w g h zs w0 w1 a b W) (wd : Nat) (h1 : 1 ≤ wd) (h2 : wd ≤ 128) (h3 : 8 * zs.length - a < wd) :
    Calls Try.prog 9 #[.pointer (some ⟨g, 0, none⟩), .int .i64 (wd : Int)] W fun e W' => e = .returned (.tuple #[.agg #[.int .i64 0, .int .u64 0, .int .u64 0], .int .i64 9]) ∧ PP w g h zs w0 w1 a b W' :=
  (Take_short k.c1 wd h1 h2 h3).mono fun e W' ⟨he, hb⟩ => ⟨he, k.next hb⟩
theorem PP.short2 (k : PP w g h zs w0 w1 a b W) (wd : Nat) (h1 : 1 ≤ wd) (h2 : wd ≤ 128) (h3 : 8 * zs.length - b < wd) :
    Calls Try.prog 9 #[.pointer (some ⟨h, 0, none⟩), .int .i64 (wd : Int)] W fun e W' => e = .returned (.tuple #[.agg #[.int .i64 0, .int .u64 0, .int .u64 0], .int .i64 9]) ∧ PP w g h zs w0 w1 a b W' :=
  (Take_short k.c2 wd h1 h2 h3).mono fun e W' ⟨he, hb⟩ => ⟨he, k.next hb⟩
theorem PP.left2 (k : PP w g h zs w0 w1 a b W) (r : Nat) (hr : 8 * zs.length = b + r) : Calls Try.prog 11 #[.pointer (some ⟨h, 0, none⟩)] W fun e W' => e = .returned (.int .i64 (r : Int)) ∧ PP w g h zs w0 w1 a b W' :=
  (Left_any k.c2).mono fun e W' ⟨he, q, hq⟩ => ⟨by rw [he]; congr 2; omega, by subst hq; exact k.drewN q⟩
theorem PP.all (k : PP w g h zs w0 w1 a b W) : (W.cell? ⟨w.heap.size, 0, none⟩ = some (.int .i64 w0) ∧ W.cell? ⟨w.heap.size, 1, none⟩ = some (.int .i64 w1)) ∧ PP w g h zs w0 w1 a b W := ⟨⟨cellOf k.bx 0, cellOf k.bx 1⟩, k⟩
theorem PP.left1 (k : PP w g h zs w0 w1 a b W) (r : Nat) (hr : 8 * zs.length = a + r) : Calls Try.prog 11 #[.pointer (some ⟨g, 0, none⟩)] W fun e W' => e = .returned (.int .i64 (r : Int)) ∧ PP w g h zs w0 w1 a b W' :=
  (Left_any k.c1).mono fun e W' ⟨he, q, hq⟩ => ⟨by rw [he]; congr 2; omega, by subst hq; exact k.drewN q⟩
end

set_option maxRecDepth 100000 in
set_option maxHeartbeats 8000000 in
theorem pieces_law (A : Option Addr) (n c : Nat) (x w0 w1 : Int) (zs : List Int) (w : World) (hx : 0 ≤ x ∧ x ≤ 65535) (hz : ∀ j, 0 ≤ zs.getD j 0 ∧ zs.getD j 0 ≤ 255) (hR : Reads w .u8 A n zs) :
    Calls Try.prog 5 #[.slice A n c, .int .u16 x, .agg #[.int .i64 w0, .int .i64 w1]] w fun e w' => e = .returned (.bool true) ∧ Below w.heap.size w w' := by
  have hnm := hR.2.1
  have HB0 : Aside (Below w.heap.size w (w.alloc (.cells #[.int .i64 w0, .int .i64 w1] 41))) := (Below.refl _ _).alloc (Nat.le_refl _) _
  by_cases hbig : 65536 < n
  · have hd : decide (65536 < (n : Int)) = true := decide_eq_true (by omega)
    clear hR
    go_enter Try.func5, Try.ntmps5
    go_wp2_with fail
    refine (New_big A n c _ hbig hnm).mono ?_
    rintro e w1 ⟨rfl, rfl⟩
    go_wp2_with fail
    refine (New_big A n c _ hbig hnm).mono ?_
    rintro e w1 ⟨rfl, rfl⟩
    go_wp2_with fail
    refine (alive_any _).mono ?_
    rintro e w1 ⟨rfl, hb1⟩
    go_wp2_with fail
    refine (alive_any _).mono ?_
    rintro e w2 ⟨rfl, hb2⟩
    go_wp2
    go_ret
    exact ⟨rfl, (HB0.out.trans (hb1.mono HB0.out.size)).trans (hb2.mono (by have h1 := HB0.out.size; have h2 := hb1.size; omega))⟩
  · have HR : Aside (Reads w .u8 A n zs) := hR
    have HL : Aside (zs.length = n) := hR.1
    have HZ : Aside (∀ j, 0 ≤ zs.getD j 0 ∧ zs.getD j 0 ≤ 255) := hz
    have hbx := heap_alloc_new w (.cells #[.int .i64 w0, .int .i64 w1] 41)
    have HBX : Aside ((w.alloc (.cells #[.int .i64 w0, .int .i64 w1] 41)).heap[w.heap.size]? = some (.cells #[.int .i64 w0, .int .i64 w1] 41 (0, 0))) := hbx
    obtain ⟨T, hT⟩ : ∃ T : Nat, x % 4000 = (T : Int) := ⟨(x % 4000).toNat, by omega⟩
    have hT2 : x.tmod 4000 = (T : Int) := by rw [Int.tmod_eq_emod_of_nonneg hx.1]; exact hT
    have hT4 : T < 4000 := by omega
    have hn6 : n ≤ 65536 := by omega
    clear hR hz hbx hbig
    go_enter Try.func5, Try.ntmps5
    go_wp2_with fail
    refine (New_any A n c zs _ (HR.out.below HB0.out) hn6).mono ?_
    rintro e w3 ⟨g, rfl, hc3, hb3⟩
    have hB3 : Below w.heap.size w w3 := HB0.out.trans (hb3.mono HB0.out.size)
    have hg3 := hc3.lt
    go_wp2_with fail
    refine (New_any A n c zs _ (HR.out.below hB3) hn6).mono ?_
    rintro e w4 ⟨h, rfl, hc4, hb4⟩
    have K4 : PP w g h zs w0 w1 0 0 w4 := by
      refine ⟨(hc3.base (by simp)).below hb4, hc4.base ?_, ?_, ?_, hB3.trans (hb4.mono hB3.size)⟩
      · have := hb3.size; simp at this; omega
      · have := hc4.1; omega
      · have e1 := (hb3.block w.heap.size (by simp)).trans HBX.out
        exact (hb4.block _ (Array.getElem?_eq_some_iff.1 e1).1).trans e1
    clear hc3 hb3 hc4 hb4 hB3 hg3
    go_wp2_with fail
    refine (alive_any _).mono ?_
    rintro e w5 ⟨rfl, hb5⟩
    have K5 := K4.next hb5
    clear K4 hb5
    go_wp2
    go_loopw [11] (fun i wr => ∃ k a : Nat, k ≤ T ∧ i = .int .i64 k ∧ Aside (a = min k (8 * n)) ∧ PP w g h zs w0 w1 a a wr) (fun i _ => T - (intOf i).toNat)
    case atStart => exact ⟨0, 0, Nat.zero_le _, rfl, by show 0 = min 0 (8 * n); omega, K5⟩
    case round =>
      obtain ⟨k, a, hk, rfl, ha, hK⟩ := hrel
      clear K5
      by_cases hlt : k < T
      · have hkT : (k : Int) < (T : Int) := by omega
        by_cases ha8 : k < 8 * n
        · have hak : a = k := by have := ha.out; omega
          have HT1 : Aside (∀ V b, PP w g h zs w0 w1 a b V → Calls Try.prog 9 #[.pointer (some ⟨g, 0, none⟩), .int .i64 1] V fun e W' => ∃ hi lo, e = .returned (.tuple #[.agg #[.int .i64 1, .int .u64 hi, .int .u64 lo], .int .i64 0]) ∧ PP w g h zs w0 w1 (a + 1) b W') :=
            fun V b hV => (hV.take1 HZ.out 1 (by decide) (by decide) (by rw [HL.out]; omega)).mono fun e W' ⟨h1, h2, _⟩ => ⟨_, _, h1, h2⟩
          have HT2 : Aside (∀ V b, PP w g h zs w0 w1 b a V → Calls Try.prog 9 #[.pointer (some ⟨h, 0, none⟩), .int .i64 1] V fun e W' => ∃ hi lo, e = .returned (.tuple #[.agg #[.int .i64 1, .int .u64 hi, .int .u64 lo], .int .i64 0]) ∧ PP w g h zs w0 w1 b (a + 1) W') :=
            fun V b hV => (hV.take2 HZ.out 1 (by decide) (by decide) (by rw [HL.out]; omega)).mono fun e W' ⟨h1, h2, _⟩ => ⟨_, _, h1, h2⟩
          have HA : Aside (a + 1 = min (k + 1) (8 * n)) := by show _ = _; omega
          clear hak ha8
          go_wp2_with fail
          refine Calls.mono (HT1.out _ _ hK) ?_
          rintro e w6 ⟨hi, lo, rfl, hK6⟩
          go_wp2_with fail
          refine Calls.mono (HT2.out _ _ (hK6.alloc _)) ?_
          rintro e w7 ⟨hi2, lo2, rfl, hK7⟩
          go_wp2
          go_roundw
          case rel => exact ⟨k + 1, a + 1, by omega, by go_num, HA, hK7.alloc _⟩
          case measure => (simp [intOf]; omega)
        · have hak : a = 8 * n := by have := ha.out; omega
          have HT1 : Aside (∀ V b, PP w g h zs w0 w1 a b V → Calls Try.prog 9 #[.pointer (some ⟨g, 0, none⟩), .int .i64 1] V fun e W' => e = .returned (.tuple #[.agg #[.int .i64 0, .int .u64 0, .int .u64 0], .int .i64 9]) ∧ PP w g h zs w0 w1 a b W') :=
            fun V b hV => hV.short1 1 (by decide) (by decide) (by rw [HL.out]; omega)
          have HT2 : Aside (∀ V b, PP w g h zs w0 w1 b a V → Calls Try.prog 9 #[.pointer (some ⟨h, 0, none⟩), .int .i64 1] V fun e W' => e = .returned (.tuple #[.agg #[.int .i64 0, .int .u64 0, .int .u64 0], .int .i64 9]) ∧ PP w g h zs w0 w1 b a W') :=
            fun V b hV => hV.short2 1 (by decide) (by decide) (by rw [HL.out]; omega)
          have HLF : Aside (∀ V b, PP w g h zs w0 w1 a b V → Calls Try.prog 11 #[.pointer (some ⟨g, 0, none⟩)] V fun e W' => e = .returned (.int .i64 0) ∧ PP w g h zs w0 w1 a b W') :=
            fun V b hV => hV.left1 0 (by rw [HL.out]; omega)
          have HA : Aside (a = min (k + 1) (8 * n)) := by show _ = _; omega
          clear hak ha8
          go_wp2_with fail
          refine Calls.mono (HT1.out _ _ hK) ?_
          rintro e w6 ⟨rfl, hK6⟩
          go_wp2_with fail
          refine Calls.mono (HT2.out _ _ (hK6.alloc _)) ?_
          rintro e w7 ⟨rfl, hK7⟩
          go_wp2_with fail
          refine Calls.mono (HLF.out _ _ (hK7.alloc _)) ?_
          rintro e w8 ⟨rfl, hK8⟩
          go_wp2
          go_roundw
          case rel => exact ⟨k + 1, a, by omega, by go_num, HA, hK8⟩
          case measure => (simp [intOf]; omega)
      · obtain rfl : k = T := by omega
        have ha8 : a ≤ 8 * n := by have := ha.out; omega
        clear ha hlt hk
        have z0 := cellOf hK.bx 0
        have z1 := cellOf hK.bx 1
        simp only [List.getElem?_toArray, List.getElem?_cons_zero, List.getElem?_cons_succ] at z0 z1
        by_cases g1 : w0 < 1
        · go_wp2
          go_ret
          exact ⟨rfl, hK.below⟩
        by_cases g2 : 128 < w0
        · go_wp2
          go_ret
          exact ⟨rfl, hK.below⟩
        by_cases g3 : w1 < 1
        · go_wp2
          go_ret
          exact ⟨rfl, hK.below⟩
        by_cases g4 : 128 < w1
        · go_wp2
          go_ret
          exact ⟨rfl, hK.below⟩
        by_cases g5 : 128 < w0 + w1
        · go_wp2
          go_ret
          exact ⟨rfl, hK.below⟩
        obtain ⟨p, rfl⟩ := Int.eq_ofNat_of_zero_le (show 0 ≤ w0 by omega)
        obtain ⟨q, rfl⟩ := Int.eq_ofNat_of_zero_le (show 0 ≤ w1 by omega)
        have hp1 : 1 ≤ p := by omega
        have hq1 : 1 ≤ q := by omega
        have hpq : p + q ≤ 128 := by omega
        have hcast : ((p + q : Nat) : Int) = (p : Int) + (q : Int) := by push_cast; rfl
        by_cases hfit : a + (p + q) ≤ 8 * n
        · have hlen : (bitsL zs).length = 8 * n := by rw [bitsL_length, HL.out]
          have hv1 := numOf_lt (win (bitsL zs) a p)
          rw [win_length _ _ _ (by omega)] at hv1
          have hv2 := numOf_lt (win (bitsL zs) (a + p) q)
          rw [win_length _ _ _ (by omega)] at hv2
          have hvv : numOf (win (bitsL zs) a (p + q)) = numOf (win (bitsL zs) a p) * 2 ^ q + numOf (win (bitsL zs) (a + p) q) := by
            rw [win_add, numOf_append, win_length _ _ _ (by omega)]
          have HT1 : Aside (∀ V b, PP w g h zs (p : Int) (q : Int) a b V → Calls Try.prog 9 #[.pointer (some ⟨g, 0, none⟩), .int .i64 ((p : Int) + (q : Int))] V fun e W' => e = .returned (.tuple #[.agg #[.int .i64 ((p : Int) + (q : Int)), .int .u64 (hiOf (numOf (win (bitsL zs) a p) * 2 ^ q + numOf (win (bitsL zs) (a + p) q))), .int .u64 (loOf (numOf (win (bitsL zs) a p) * 2 ^ q + numOf (win (bitsL zs) (a + p) q)))], .int .i64 0]) ∧ PP w g h zs (p : Int) (q : Int) (a + (p + q)) b W') := by
            intro V b hV
            have h1 := hV.take1 HZ.out (p + q) (by omega) hpq (by rw [HL.out]; exact hfit)
            rw [hvv, hcast] at h1
            exact h1.mono fun e W' ⟨h1, h2, _⟩ => ⟨h1, h2⟩
          have HT2 : Aside (∀ V c, PP w g h zs (p : Int) (q : Int) c a V → Calls Try.prog 9 #[.pointer (some ⟨h, 0, none⟩), .int .i64 (p : Int)] V fun e W' => e = .returned (.tuple #[.agg #[.int .i64 (p : Int), .int .u64 (hiOf (numOf (win (bitsL zs) a p))), .int .u64 (loOf (numOf (win (bitsL zs) a p)))], .int .i64 0]) ∧ PP w g h zs (p : Int) (q : Int) c (a + p) W' ∧ Foot (fun i => i = h) V W') :=
            fun V c hV => hV.take2 HZ.out p hp1 (by omega) (by rw [HL.out]; omega)
          have HT3 : Aside (∀ V c, PP w g h zs (p : Int) (q : Int) c (a + p) V → Calls Try.prog 9 #[.pointer (some ⟨h, 0, none⟩), .int .i64 (q : Int)] V fun e W' => e = .returned (.tuple #[.agg #[.int .i64 (q : Int), .int .u64 (hiOf (numOf (win (bitsL zs) (a + p) q))), .int .u64 (loOf (numOf (win (bitsL zs) (a + p) q)))], .int .i64 0]) ∧ PP w g h zs (p : Int) (q : Int) c (a + p + q) W' ∧ Foot (fun i => i = h) V W') :=
            fun V c hV => hV.take2 HZ.out q hq1 (by omega) (by rw [HL.out]; omega)
          generalize numOf (win (bitsL zs) a p) = v1 at *
          generalize numOf (win (bitsL zs) (a + p) q) = v2 at *
          have HDO : Aside (∀ V, Calls Try.prog 14 #[.int .u8 14, .agg #[.int .i64 (p : Int), .int .u64 (hiOf v1), .int .u64 (loOf v1)], .agg #[.int .i64 (q : Int), .int .u64 (hiOf v2), .int .u64 (loOf v2)], .int .i64 0, .int .i64 0] V fun e w' => e = .returned (.tuple #[.agg #[.int .i64 ((p : Int) + (q : Int)), .int .u64 (hiOf (v1 * 2 ^ q + v2)), .int .u64 (loOf (v1 * 2 ^ q + v2))], .int .i64 0]) ∧ Below V.heap.size V w') := by
            intro V
            have h1 := do_cat (mkNum p v1) (mkNum q v2) (mkNum_wf _ _ (by omega) hv1) (mkNum_wf _ _ (by omega) hv2) (mkNum_ok _ _ hp1 (by omega) hv1) (mkNum_ok _ _ hq1 (by omega) hv2) (by show (p : Int) + (q : Int) ≤ 128; omega) 0 0 V
            rw [mkNum_val p v1 (Nat.lt_of_lt_of_le hv1 (Nat.pow_le_pow_right (by decide) (by omega))), mkNum_val q v2 (Nat.lt_of_lt_of_le hv2 (Nat.pow_le_pow_right (by decide) (by omega)))] at h1
            have e1 : (mkNum p v1).W.toNat = p := by show ((p : Nat) : Int).toNat = p; simp
            have e2 : (mkNum q v2).W.toNat = q := by show ((q : Nat) : Int).toNat = q; simp
            rw [e1, e2] at h1
            have e3 : (mkNum (p + q) (v1 * 2 ^ q + v2)).v = .agg #[.int .i64 ((p : Int) + (q : Int)), .int .u64 (hiOf (v1 * 2 ^ q + v2)), .int .u64 (loOf (v1 * 2 ^ q + v2))] := by
              unfold mkNum Num.v
              rw [hcast]
            rw [e3] at h1
            exact h1
          have HAT : Aside (a + (p + q) = a + p + q) := by show _ = _; omega
          clear hlen hv1 hv2 hvv hcast hfit
          generalize hiOf v1 = h1 at *
          generalize loOf v1 = l1 at *
          generalize hiOf v2 = h2 at *
          generalize loOf v2 = l2 at *
          generalize hiOf (v1 * 2 ^ q + v2) = h3 at *
          generalize loOf (v1 * 2 ^ q + v2) = l3 at *
          go_wp2_with fail
          refine Calls.mono (HT1.out _ _ hK) ?_
          rintro e w6 ⟨rfl, hK6⟩
          rw [HAT.out] at hK6
          have X6 : Aside ((w6.alloc (.cells #[.int .i64 ((p : Int) + (q : Int)), .int .u64 h3, .int .u64 l3] 33)).heap[w6.heap.size]? = some (.cells #[.int .i64 ((p : Int) + (q : Int)), .int .u64 h3, .int .u64 l3] 33 (0, 0))) := heap_alloc_new _ _
          have hK7 := hK6.alloc (.cells #[.int .i64 ((p : Int) + (q : Int)), .int .u64 h3, .int .u64 l3] 33)
          clear z0 z1 hK
          obtain ⟨⟨z0, z1⟩, _⟩ := hK7.all
          have hxh : w6.heap.size ≠ h := by have := hK6.c2.lt; omega
          go_wp2_with fail
          refine Calls.mono (HT2.out _ _ hK7) ?_
          rintro e w8 ⟨rfl, hK8, f8⟩
          have X8 : Aside (w8.heap[w6.heap.size]? = some (.cells #[.int .i64 ((p : Int) + (q : Int)), .int .u64 h3, .int .u64 l3] 33 (0, 0))) := f8.blk X6.out hxh
          have hK9 := hK8.alloc (.cells #[.int .i64 (p : Int), .int .u64 h1, .int .u64 l1] 33)
          have X9 : Aside ((w8.alloc (.cells #[.int .i64 (p : Int), .int .u64 h1, .int .u64 l1] 33)).heap[w6.heap.size]? = some (.cells #[.int .i64 ((p : Int) + (q : Int)), .int .u64 h3, .int .u64 l3] 33 (0, 0))) := (Below.heap_alloc _ _ _ (Array.getElem?_eq_some_iff.1 X8.out).1).trans X8.out
          have Y9 : Aside ((w8.alloc (.cells #[.int .i64 (p : Int), .int .u64 h1, .int .u64 l1] 33)).heap[w8.heap.size]? = some (.cells #[.int .i64 (p : Int), .int .u64 h1, .int .u64 l1] 33 (0, 0))) := heap_alloc_new _ _
          have hyh : w8.heap.size ≠ h := by have := hK8.c2.lt; omega
          clear z0 z1 hK6 hK7 f8 X6 X8
          obtain ⟨⟨z0, z1⟩, _⟩ := hK9.all
          generalize w6.heap.size = bx at *
          go_wp2_with fail
          refine Calls.mono (HT3.out _ _ hK9) ?_
          rintro e w10 ⟨rfl, hK10, f10⟩
          have X10 := f10.blk X9.out hxh
          have Y10 := f10.blk Y9.out hyh
          clear z0 z1 hK8 hK9 f10 X9 Y9
          generalize w8.heap.size = bY at *
          have hK11 := hK10.alloc (.cells #[.int .i64 (q : Int), .int .u64 h2, .int .u64 l2] 33)
          have X11 := (Below.heap_alloc w10 (.cells #[.int .i64 (q : Int), .int .u64 h2, .int .u64 l2] 33) _ (Array.getElem?_eq_some_iff.1 X10).1).trans X10
          have Y11 := (Below.heap_alloc w10 (.cells #[.int .i64 (q : Int), .int .u64 h2, .int .u64 l2] 33) _ (Array.getElem?_eq_some_iff.1 Y10).1).trans Y10
          have y0 := cellOf Y11 0
          have y1 := cellOf Y11 1
          have y2 := cellOf Y11 2
          simp only [List.getElem?_toArray, List.getElem?_cons_zero, List.getElem?_cons_succ] at y0 y1 y2
          have HX11 : Aside _ := X11
          clear X10 Y10 X11 Y11
          go_wp2_with fail
          refine Calls.mono (HDO.out _) ?_
          rintro e w12 ⟨rfl, hb12⟩
          have X12 := (hb12.block _ (Array.getElem?_eq_some_iff.1 HX11.out).1).trans HX11.out
          have hK12 := hK11.next hb12
          have X13 := (Below.heap_alloc w12 (.cells #[.int .i64 ((p : Int) + (q : Int)), .int .u64 h3, .int .u64 l3] 33) _ (Array.getElem?_eq_some_iff.1 X12).1).trans X12
          have hK13 := hK12.alloc (.cells #[.int .i64 ((p : Int) + (q : Int)), .int .u64 h3, .int .u64 l3] 33)
          have x0 := cellOf X13 0
          have x1 := cellOf X13 1
          have x2 := cellOf X13 2
          simp only [List.getElem?_toArray, List.getElem?_cons_zero, List.getElem?_cons_succ] at x0 x1 x2
          clear y0 y1 y2 X12 X13 hb12 HX11 hK10 hK11 hK12
          go_wp2_with fail
          refine (At_any hK13.c1).mono ?_
          rintro e w' ⟨rfl, rfl⟩
          go_wp2_with fail
          refine (At_any hK13.c2).mono ?_
          rintro e w' ⟨rfl, rfl⟩
          go_wp2
          go_ret
          exact ⟨rfl, hK13.below⟩
        · obtain ⟨r, hr⟩ : ∃ r, 8 * n = a + r := ⟨8 * n - a, by omega⟩
          have HT1 : Aside (∀ V b, PP w g h zs (p : Int) (q : Int) a b V → Calls Try.prog 9 #[.pointer (some ⟨g, 0, none⟩), .int .i64 ((p : Int) + (q : Int))] V fun e W' => e = .returned (.tuple #[.agg #[.int .i64 0, .int .u64 0, .int .u64 0], .int .i64 9]) ∧ PP w g h zs (p : Int) (q : Int) a b W') := by
            intro V b hV
            have h1 := hV.short1 (p + q) (by omega) hpq (by rw [HL.out]; omega)
            rwa [hcast] at h1
          have HLF : Aside (∀ V, PP w g h zs (p : Int) (q : Int) a a V → Calls Try.prog 11 #[.pointer (some ⟨h, 0, none⟩)] V fun e W' => e = .returned (.int .i64 (r : Int)) ∧ PP w g h zs (p : Int) (q : Int) a a W') := fun V hV => hV.left2 r (by rw [HL.out]; exact hr)
          have hlr : (r : Int) < (p : Int) + (q : Int) := by omega
          have hwr : IntKind.i64.wrap ((p : Int) + (q : Int)) = (p : Int) + (q : Int) := by rw [IntKind.wrap_i64]; omega
          have hdr : decide ((r : Int) < (p : Int) + (q : Int)) = true := decide_eq_true hlr
          clear hr hfit hcast
          go_wp2_with fail
          refine Calls.mono (HT1.out _ _ hK) ?_
          rintro e w6 ⟨rfl, hK6⟩
          have hK7 := hK6.alloc (.cells #[.int .i64 0, .int .u64 0, .int .u64 0] 33)
          have s7 := (hK7.drewN 1).all
          clear z0 z1 hK hK6
          go_wp2_with fail
          generalize (w6.alloc (.cells #[.int .i64 0, .int .u64 0, .int .u64 0] 33)) = w7 at *
          go_region_held3 (fun W => (W.cell? ⟨w.heap.size, 0, none⟩ = some (.int .i64 (p : Int)) ∧ W.cell? ⟨w.heap.size, 1, none⟩ = some (.int .i64 (q : Int))) ∧ PP w g h zs (p : Int) (q : Int) a a W)
            (first | exact s7 | assumption | exact PP.all hb8)
            ((go_simp; (first
              | (go_at_call 11; refine Calls.mono (HLF.out _ ?_) ?_; (· exact And.right (by assumption)); rintro e w8 ⟨rfl, hb8⟩)
              | fail)))
          go_wp2
          go_ret
          rename_i hh
          exact ⟨rfl, hh.2.below⟩

theorem Came.two {H : Type} {enc : TypeId × Value → H} {w : World} {cs : List Value} (h : Came enc Try.prog w 41 cs) : ∃ a b : Int, cs = [.int .i64 a, .int .i64 b] := by
  obtain ⟨hl, hf⟩ := h.array Try.underlying41
  have h2 : Try.prog.cellsOf 41 = 2 := by kernel_rfl
  have h1 : Try.prog.cellsOf 3 = 1 := by kernel_rfl
  rw [h2] at hl
  have f0 := hf 0 (by decide)
  have f1 := hf 1 (by decide)
  rw [h1] at f0 f1
  clear hf
  match cs, hl with
  | [a, b], _ =>
    obtain ⟨x, hx, _⟩ := f0.int Try.underlying3
    obtain ⟨y, hy, _⟩ := f1.int Try.underlying3
    simp at hx hy
    exact ⟨x, y, by rw [hx, hy]⟩
end Go.Proofs.Ytipeeacplhgihaa
