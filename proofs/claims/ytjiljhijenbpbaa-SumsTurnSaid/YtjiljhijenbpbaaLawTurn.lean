/-
  The walk of the law SumsTurn.
-/
import Derived.Test.YtjiljhijenbpbaaAlive
import Derived.Test.YtjiljhijenbpbaaMathTurn
set_option linter.unusedVariables false
set_option linter.unusedSimpArgs false
namespace Go.Proofs.Ytjiljhijenbpbaa
open Go.RowKit SumsMath

/-- Are the first ones all 0? -/
def allz (zs : List Int) (k : Nat) : Bool := (zs.take k).all (· == 0)
theorem allz_0 (zs : List Int) : allz zs 0 = true := rfl
theorem allz_succ (zs : List Int) (k : Nat) (h : k < zs.length) : allz zs (k + 1) = (allz zs k && (zs.getD k 0 == 0)) := by
  unfold allz
  rw [List.take_succ_eq_append_getElem h, List.all_append]
  simp [List.getD_eq_getElem?_getD, List.getElem?_eq_getElem h]
theorem allz_of (zs : List Int) (n : Nat) (hl : zs.length = n) (h : allz zs n = false) : ¬ ∀ j, j < n → zs.getD j 0 = 0 := by
  intro hz
  have : allz zs n = true := by
    unfold allz
    rw [List.take_of_length_le (by omega)]
    rw [List.all_eq_true]
    intro x hx
    obtain ⟨k, hk, rfl⟩ := List.mem_iff_getElem.1 hx
    have := hz k (by omega)
    rw [List.getD_eq_getElem?_getD, List.getElem?_eq_getElem hk] at this
    simpa using this
  rw [this] at h
  cases h
theorem bytes_set {zs : List Int} (hx : Bytes zs) (k : Nat) (x : Int) (h : 0 ≤ x ∧ x ≤ 255) : Bytes (zs.set k x) := by
  intro j
  by_cases hk : k < zs.length
  · rw [getD_set _ _ _ _ hk]
    split
    · exact h
    · exact hx j
  · rw [List.set_eq_of_length_le (by omega)]; exact hx j

set_option maxHeartbeats 3200000 in
theorem turn_law (A : Option Addr) (n cap : Nat) (zs : List Int) (at_ next : Int) (ha : 0 ≤ at_ ∧ at_ ≤ 65535) (hn : 0 ≤ next ∧ next ≤ 65535) (w : World) (hx : Bytes zs) (hR : Reads w .u8 A n zs) :
    Calls Try.prog 5 #[.slice A n cap, .int .u16 at_, .int .u16 next] w fun e w' => e = .returned (.bool true) ∧ Below w.heap.size w w' := by
  have hlen := hR.2.1
  have HR : Aside (Reads w .u8 A n zs ∧ Bytes zs) := ⟨hR, hx⟩
  clear hR hx
  by_cases hb : n < 2 ∨ 60000 < n
  · rcases hb with hb | hb
    · go_enter Try.func5, Try.ntmps5
      go_wp2_with fail
      refine (alive_any _).mono ?_
      rintro e w1 ⟨rfl, hb1⟩
      go_wp2_with fail
      refine (alive_any _).mono ?_
      rintro e w2 ⟨rfl, hb2⟩
      go_wp2
      go_ret
      exact ⟨rfl, hb1.trans (hb2.mono hb1.size)⟩
    · have hd : decide ((n : Int) < 2) = false := decide_eq_false (by omega)
      go_enter Try.func5, Try.ntmps5
      go_wp2_with fail
      refine (alive_any _).mono ?_
      rintro e w1 ⟨rfl, hb1⟩
      go_wp2_with fail
      refine (alive_any _).mono ?_
      rintro e w2 ⟨rfl, hb2⟩
      go_wp2
      go_ret
      exact ⟨rfl, hb1.trans (hb2.mono hb1.size)⟩
  · have hd : decide ((n : Int) < 2) = false := decide_eq_false (by omega)
    have hd2 : decide (60000 < (n : Int)) = false := decide_eq_false (by omega)
    have hn2 : (n : Int) ≠ 0 := by omega
    have hn3 : ((n : Int) / 2) ≠ 0 := by omega
    obtain ⟨q, hq, hqn⟩ : ∃ q : Nat, at_ % ((n : Int) / 2) = q ∧ 2 * q + 1 < n := by
      have h1 := Int.emod_nonneg at_ hn3
      have h2 := Int.emod_lt_of_pos at_ (show 0 < (n : Int) / 2 by omega)
      exact ⟨(at_ % ((n : Int) / 2)).toNat, by omega, by omega⟩
    have hi0 : (0 : Int) ≤ 2 * (q : Int) := by omega
    have hi1 : 2 * (q : Int) < (n : Int) := by omega
    have hi2 : 2 * (q : Int) + 1 < (n : Int) := by omega
    have hi3 : (0 : Int) ≤ 2 * (q : Int) + 1 := by omega
    have hi4 : (2 * (q : Int) + 1).toNat = 2 * q + 1 := by omega
    have hi5 : (2 * (q : Int)).toNat = 2 * q := by omega
    have hh : 0 ≤ next / 256 ∧ next / 256 ≤ 255 := by omega
    have hlo : 0 ≤ next % 256 ∧ next % 256 ≤ 255 := by omega
    go_enter Try.func5, Try.ntmps5
    go_wp2_with fail
    refine (alive_any _).mono ?_
    rintro e w1 ⟨rfl, hb1⟩
    have HR1 : Aside (Reads w1 .u8 A n zs) := HR.out.1.below hb1
    have HO1 : Aside (w1.ownsRow w.heap.size 5 1 (.slice none 0 0) ([] : List Int).length (nums .u8 [])) := World.ownsRow_nil _ _ _ _
    have hs1 := hb1.size
    go_wp2_with (
      at_builtin
      refine append_row w.heap.size rfl _ _ 29 5 .u8 1 rfl Try.underlying29 infoByte (by omega) (.slice none 0 0) [] zs A n cap rfl rfl HO1.out HR1.out hs1 (by simp; omega) ?_
      intro v1 w2 hown hg hat
      have hzl : ([] ++ zs : List Int).length = n := by simpa using HR.out.1.1
      rw [hzl, List.nil_append] at hown
      obtain ⟨g, c, rfl, hgb, hgs, hnc, hcm⟩ := own_some hown (by omega)
      have hZL : Aside (zs.length = n) := HR.out.1.1
      have hb2 : Below w.heap.size w w2 := hb1.trans (own_grown HO1.out hg hs1)
      have hs2 := hb2.size
      clear hg hat hzl
      have e0 := own_at hown (2 * q) (by omega)
      have e1 := own_at hown (2 * q + 1) (by omega)
      have f0 := hown.frozenAt (2 * q)
      have f1 := hown.frozenAt (2 * q + 1)
      have hO2 : Aside (((w2.setCell ⟨g, 2 * q, none⟩ (.int .u8 (next / 256))).setCell ⟨g, 2 * q + 1, none⟩ (.int .u8 (next % 256))).ownsRow w.heap.size 5 1 (.slice (some ⟨g, 0, none⟩) n c) n (nums .u8 ((zs.set (2 * q) (next / 256)).set (2 * q + 1) (next % 256)))) := own_put (own_put hown _ _) _ _
      have hB3 : Below w.heap.size w ((w2.setCell ⟨g, 2 * q, none⟩ (.int .u8 (next / 256))).setCell ⟨g, 2 * q + 1, none⟩ (.int .u8 (next % 256))) := (hb2.setCell (p := ⟨_, _, _⟩) hgb _).setCell (p := ⟨_, _, _⟩) hgb _
      have hgs3 : g < ((w2.setCell ⟨g, 2 * q, none⟩ (.int .u8 (next / 256))).setCell ⟨g, 2 * q + 1, none⟩ (.int .u8 (next % 256))).heap.size := by simpa using hgs
      clear hown hb1 HR1 HO1
      have HB3 : Aside _ := And.intro hB3 hgs3
      clear hB3 hgs3
      generalize hx0 : zs.getD (2 * q) 0 = x0 at *
      generalize hx1 : zs.getD (2 * q + 1) 0 = x1 at *
      have HX : Aside _ := And.intro hx0 hx1
      clear hx0 hx1)
    generalize (w2.setCell ⟨g, 2 * q, none⟩ (.int .u8 (next / 256))).setCell ⟨g, 2 * q + 1, none⟩ (.int .u8 (next % 256)) = V at *
    have hO := hO2.out
    have hB := HB3.out.1
    have hgV := HB3.out.2
    obtain ⟨b, off, rfl, hbl, hcs⟩ := HR.out.1.plain (by omega)
    have kb0 : V.cell? ⟨b, off + 2 * q, none⟩ = some (.int .u8 x0) := by rw [hB.cell (p := ⟨b, off + 2 * q, none⟩) hbl, hcs _ (by omega), HX.out.1]
    have kb1 : V.cell? ⟨b, off + (2 * q + 1), none⟩ = some (.int .u8 x1) := by rw [hB.cell (p := ⟨b, off + (2 * q + 1), none⟩) hbl, hcs _ (by omega), HX.out.2]
    have hbx0 := HR.out.2 (2 * q)
    have hbx1 := HR.out.2 (2 * q + 1)
    rw [HX.out.1] at hbx0
    rw [HX.out.2] at hbx1
    have HO : Aside (V.ownsRow w.heap.size 5 1 (.slice (some ⟨g, 0, none⟩) n c) n (nums .u8 ((zs.set (2 * q) (next / 256)).set (2 * q + 1) (next % 256)))) := hO
    have HBV : Aside (Below w.heap.size w V ∧ g < V.heap.size) := ⟨hB, hgV⟩
    have HX1 : Aside (Bytes ((zs.set (2 * q) (next / 256)).set (2 * q + 1) (next % 256))) := bytes_set (bytes_set HR.out.2 _ _ hh) _ _ hlo
    have HL1 : Aside (((zs.set (2 * q) (next / 256)).set (2 * q + 1) (next % 256)).length = n) := by simpa [Aside] using HR.out.1.1
    have HT : Aside (¬ (∀ j, j < zs.length → ((zs.set (2 * q) (next / 256)).set (2 * q + 1) (next % 256)).getD j 0 = 0) → turnF (sumF 3 zs) (256 * x0 + x1) next = sumF 3 ((zs.set (2 * q) (next / 256)).set (2 * q + 1) (next % 256))) := by
      intro hne
      have h := turn_plain zs HR.out.2 q (next / 256) (next % 256) hh hlo (by rw [HR.out.1.1]; omega) HX1.out hne
      rw [HX.out.1, HX.out.2] at h
      have e : 256 * (next / 256) + next % 256 = next := by omega
      rw [e] at h
      exact h
    clear hO hB hgV hO2 HB3 hcs hbl hb2 e0 e1 f0 f1 hgs hs2
    generalize ((zs.set (2 * q) (next / 256)).set (2 * q + 1) (next % 256)) = ys at *
    go_quiet (fail)
    go_wp2
    go_loopw [10, 11] (fun u i wr => ∃ k : Nat, k ≤ n ∧ i = .int .i64 k ∧ u = .bool (allz ys k) ∧ wr = V.drewN nq) (fun _ i _ => n - (intOf i).toNat)
    case atStart => exact ⟨0, Nat.zero_le _, rfl, rfl, rfl⟩
    case round =>
      obtain ⟨k, hk, rfl, rfl, rfl⟩ := hrel
      by_cases hlt : k < n
      · have hca : V.cell? ⟨g, k, none⟩ = some (.int .u8 (ys.getD k 0)) := own_at HO.out k hlt
        have hsu : Aside (allz ys (k + 1) = (allz ys k && (ys.getD k 0 == 0))) := allz_succ ys k (by rw [HL1.out]; exact hlt)
        generalize ys.getD k 0 = x at *
        have hk0 : (0 : Int) ≤ (k : Int) := by omega
        have hk1 : (k : Int) < (n : Int) := by omega
        cases hz : allz ys k with
        | false =>
          rw [hz] at hsu
          have HZ : Aside (allz ys (k + 1) = false) := hsu.out
          clear hz hsu
          go_wp2
          go_roundw
          case rel => exact ⟨k + 1, by omega, by go_num, by rw [HZ.out], trivial⟩
          case measure => simp [intOf]; omega
        | true =>
          rw [hz] at hsu
          have HZ : Aside (allz ys (k + 1) = (x == 0)) := hsu.out
          clear hz hsu
          go_wp2
          go_roundw
          case rel => exact ⟨k + 1, by omega, by go_num, by rw [HZ.out], trivial⟩
          case measure => simp [intOf]; omega
      · obtain rfl : n = k := by omega
        cases hz : allz ys n with
        | true =>
          clear hz
          go_wp2
          go_ret
          exact ⟨rfl, below_drewN HBV.out.1 nq⟩
        | false =>
          have hE := HT.out (allz_of ys n HL1.out hz ∘ (fun h j hj => h j (by rw [HR.out.1.1]; exact hj)))
          have hb16 := sumF_bd16 3 (by omega) zs HR.out.2
          have hb17 := sumF_bd16 3 (by omega) ys HX1.out
          have hw17 : IntKind.u64.wrap (sumF 3 ys) = sumF 3 ys := by rw [IntKind.wrap_u64]; omega
          have HRV : Aside (Reads (V.drewN nq) .u8 (some ⟨b, off, none⟩) n zs) := HR.out.1.below (below_drewN HBV.out.1 nq)
          have hs := ofSum_any 3 _ n cap zs (by omega) _ HR.out.2 HRV.out
          have hs2 := fun (W : World) (h : Reads W .u8 (some ⟨g, 0, none⟩) n ys) => ofSum_any 3 _ n c ys (by omega) W HX1.out h
          generalize sumF 3 zs = sm at *
          generalize sumF 3 ys = sm2 at *
          have HE : Aside (turnF sm (256 * x0 + x1) next = sm2) := hE
          have HS2 : Aside (∀ W, Reads W .u8 (some ⟨g, 0, none⟩) n ys → _) := hs2
          clear hz hE hs2
          have hmod : sm % 65536 = sm := by omega
          go_wp2_with fail
          refine hs.mono ?_
          rintro e w3 ⟨rfl, hb3⟩
          go_wp2_with fail
          refine (turn_any sm (256 * x0 + x1) next hb16 (by omega) hn _).mono ?_
          rintro e w' ⟨rfl, rfl⟩
          rw [HE.out]
          have hRd : Reads (V.drewN nq) .u8 (some ⟨g, 0, none⟩) n ys := (own_rd HO.out).below ⟨rfl, rfl, rfl, Nat.le_refl _, fun _ _ => rfl⟩
          go_wp2_with fail
          refine (HS2.out _ (hRd.below hb3)).mono ?_
          rintro e w4 ⟨rfl, hb4⟩
          go_wp2
          go_ret
          have hB1 := below_drewN HBV.out.1 nq
          have hB2 := hB1.trans (hb3.mono hB1.size)
          exact ⟨rfl, hB2.trans (hb4.mono hB2.size)⟩
end Go.Proofs.Ytjiljhijenbpbaa
