/-
  lives: two arrays are made, one is counted.
-/
import Derived.Test.YtanimonhnngfkaaRandom
set_option linter.unusedVariables false
set_option linter.unusedSimpArgs false
namespace Go.Proofs.Ytanimonhnngfkaa
open Go.RowKit

def liveDecs : List Dec := [⟨4, ⟨#[99]⟩, 2, 0, 0⟩, ⟨5, ⟨#[109]⟩, 1, 3, 5⟩]
def live0 : Arr := ⟨⟨#[99]⟩, 4, 64, 0, 0, [⟨64, 0, 0⟩, ⟨64, 0, 0⟩], []⟩
def live1 : Arr := ⟨⟨#[109]⟩, 5, 64, 3, 5, [⟨64, 0, 5⟩], [0]⟩
theorem liveDecs_ok : ∀ j, j < 2 → (liveDecs.getD j zeroDec).ok := by
  intro j hj
  match j, hj with
  | 0, _ => exact ⟨⟨by show 1 ≤ 2; omega, by show 2 ≤ 4096; omega⟩, .inl rfl⟩
  | 1, _ => exact ⟨⟨by show 1 ≤ 1; omega, by show 1 ≤ 4096; omega⟩, .inr ⟨rfl, by show (0:Int) ≤ 3; omega, by show (3:Int) ≤ 65535; omega, by show (1:Int) ≤ 5; omega, by show (5:Int) ≤ 65535; omega⟩⟩
theorem liveArrs : liveDecs.map Dec.arr = [live0, live1] := rfl
theorem live0_ok : live0.ok := Dec.arr_ok _ (liveDecs_ok 0 (by omega))
theorem live1_ok : live1.ok := Dec.arr_ok _ (liveDecs_ok 1 (by omega))
theorem live_ok : ∀ j, j < 2 → ([live0, live1].getD j zeroArr).ok := by
  intro j hj
  match j, hj with
  | 0, _ => exact live0_ok
  | 1, _ => exact live1_ok
def decCells (kd : Int) (nm : ByteArray) (N R B : Int) : List Value := [.int .u8 kd, .string nm, .slice none 0 0, .int .i64 0, .int .i64 N, .int .i64 R, .int .i64 B, .slice none 0 0, .slice none 0 0, .slice none 0 0, .string ⟨#[]⟩, .slice none 0 0, .slice none 0 0, .slice none 0 0, .int .i64 0]
/-- New of the two declarations. -/
theorem New_live (w : World) (cs : Array Value) (hcs : cs.toList = decCells 4 ⟨#[99]⟩ 2 0 0 ++ decCells 5 ⟨#[109]⟩ 1 3 5) :
    Calls Try.prog 8 #[.slice (some ⟨w.heap.size, 0, none⟩) 2 2] (w.alloc (.cells cs 33)) fun e w' => ∃ A c, e = .returned (.slice A 2 c) ∧ RowAt w' A 2 [live0, live1] ∧ Below w.heap.size w w' := by
  have hb : Below w.heap.size w (w.alloc (.cells cs 33)) := (Below.refl _ _).alloc (Nat.le_refl _) _
  have hh := heap_alloc_new w (.cells cs 33)
  refine Calls.mono (New_any liveDecs w.heap.size 2 2 (w.alloc (.cells cs 33)) rfl (by omega) liveDecs_ok ?_ (Array.getElem?_eq_some_iff.1 hh).1) ?_
  · intro j i hj hi
    rw [cellOf hh, ← Array.getElem?_toList, hcs]
    match j, hj with
    | 0, _ => rw [List.getElem?_append_left (by simpa [decCells] using hi), Nat.zero_mul, Nat.zero_add]; rfl
    | 1, _ => rw [List.getElem?_append_right (by show 15 ≤ 1 * 15 + i; omega), show 1 * 15 + i - (decCells 4 ⟨#[99]⟩ 2 0 0).length = i by show 1 * 15 + i - 15 = i; omega]; rfl
  · rintro e w' ⟨v, rfl, hA, hB⟩
    rw [liveArrs] at hA
    obtain ⟨A, c, rfl, hR⟩ := hA.rowAt live_ok (by show 2 ≤ 1048576; omega)
    exact ⟨A, c, rfl, hR, hb.trans (hB.mono hb.size)⟩

theorem num8_ok (x : Int) (h0 : 0 ≤ x) (h1 : x ≤ 255) : (⟨8, 0, x⟩ : Num).wf ∧ (⟨8, 0, x⟩ : Num).ok := by
  refine ⟨⟨⟨by show (-9223372036854775808:Int) ≤ 8; omega, by show (8:Int) ≤ 9223372036854775807; omega⟩, ⟨by show (0:Int) ≤ 0; omega, by show (0:Int) ≤ 18446744073709551615; omega⟩, h0, by show x ≤ 18446744073709551615; omega⟩, by show (1:Int) ≤ 8; omega, by show (8:Int) ≤ 128; omega, ?_, ?_⟩
  · show (0:Int) = cutHi 8 0
    rfl
  · show cutLo 8 x = x
    unfold cutLo
    rw [if_pos (by omega)]
    omega
set_option maxRecDepth 100000 in
set_option maxHeartbeats 800000 in
theorem lives_any (w : World) : Calls Try.prog 9 #[] w fun e w' => e = .returned (.bool true) ∧ Below w.heap.size w w' := by
  have HN := aside (New_live w #[.int .u8 4, .string ⟨#[99]⟩, .slice none 0 0, .int .i64 0, .int .i64 2, .int .i64 0, .int .i64 0, .slice none 0 0, .slice none 0 0, .slice none 0 0, .string ⟨#[]⟩, .slice none 0 0, .slice none 0 0, .slice none 0 0, .int .i64 0, .int .u8 5, .string ⟨#[109]⟩, .slice none 0 0, .int .i64 0, .int .i64 1, .int .i64 3, .int .i64 5, .slice none 0 0, .slice none 0 0, .slice none 0 0, .string ⟨#[]⟩, .slice none 0 0, .slice none 0 0, .slice none 0 0, .int .i64 0] rfl)
  go_enter Try.func9, Try.ntmps9
  go_wp2_with fail
  refine Calls.mono HN.out ?_
  rintro e w1 ⟨A, c, rfl, hR, hb1⟩
  obtain ⟨b, off, hA, hblt, hrs⟩ := hR.2.2 (by omega)
  subst hA
  obtain ⟨A0, n0, c0, B0, m0, d0, hc0, hr0, hs0, hB0⟩ := hrs 0 (by omega)
  obtain ⟨A1, n1, c1, B1, m1, d1, hc1, hr1, hs1, _⟩ := hrs 1 (by omega)
  obtain rfl : 2 = n0 := hr0.1
  obtain rfl : 1 = n1 := hr1.1
  obtain ⟨b1, o1, hA1, hlt1, hq1⟩ := hr1.2.2 (by omega)
  subst hA1
  have hq : w1.cell? ⟨b1, o1 + 2, none⟩ = some (.int .u64 5) := (hq1 0 (by omega)).2.2
  have l0 : w1.cell? ⟨b, off, none⟩ = some (.string ⟨#[99]⟩) := hc0 0 _ rfl
  have l1 : w1.cell? ⟨b, off + 1, none⟩ = some (.int .u8 4) := hc0 1 _ rfl
  have l2 : w1.cell? ⟨b, off + 2, none⟩ = some (.int .i64 64) := hc0 2 _ rfl
  have l3 : w1.cell? ⟨b, off + 3, none⟩ = some (.int .i64 0) := hc0 3 _ rfl
  have l4 : w1.cell? ⟨b, off + 4, none⟩ = some (.int .i64 0) := hc0 4 _ rfl
  have l5 : w1.cell? ⟨b, off + 5, none⟩ = some (.slice A0 2 c0) := hc0 5 _ rfl
  have l6 : w1.cell? ⟨b, off + 6, none⟩ = some (.slice B0 m0 d0) := hc0 6 _ rfl
  have r5 : w1.cell? ⟨b, off + 7 + 5, none⟩ = some (.slice (some ⟨b1, o1, none⟩) 1 c1) := hc1 5 _ rfl
  have HR := aside hR
  have HR0 := aside hr0
  have HS0 := aside hs0
  clear hr1 hs1 hr0 hs0 hrs hR hc0 hc1 hq1
  have HL := aside (fun (V : World) (h : Below w1.heap.size w1 V) => (⟨⟨(h.cell (p := ⟨b, off, none⟩) hblt).trans l0, (h.cell (p := ⟨b, off + 1, none⟩) hblt).trans l1, (h.cell (p := ⟨b, off + 2, none⟩) hblt).trans l2, (h.cell (p := ⟨b, off + 3, none⟩) hblt).trans l3⟩, (h.cell (p := ⟨b, off + 4, none⟩) hblt).trans l4, (h.cell (p := ⟨b, off + 5, none⟩) hblt).trans l5, (h.cell (p := ⟨b, off + 6, none⟩) hblt).trans l6⟩ : (V.cell? ⟨b, off, none⟩ = some (.string ⟨#[99]⟩) ∧ V.cell? ⟨b, off + 1, none⟩ = some (.int .u8 4) ∧ V.cell? ⟨b, off + 2, none⟩ = some (.int .i64 64) ∧ V.cell? ⟨b, off + 3, none⟩ = some (.int .i64 0)) ∧ V.cell? ⟨b, off + 4, none⟩ = some (.int .i64 0) ∧ V.cell? ⟨b, off + 5, none⟩ = some (.slice A0 2 c0) ∧ V.cell? ⟨b, off + 6, none⟩ = some (.slice B0 m0 d0)))
  have HCI := aside (fun (V : World) (h : Below w1.heap.size w1 V) => Count_in live0 live0_ok rfl A0 2 c0 B0 m0 d0 1 hB0 64 0 0 rfl ⟨8, 0, 1⟩ (num8_ok 1 (by omega) (by omega)).1 (num8_ok 1 (by omega) (by omega)).2 rfl rfl (by omega) V (HR0.out.below h) (HS0.out.below h))
  have HCO := aside (fun (V : World) (h : Below w1.heap.size w1 V) => Count_out live0 live0_ok rfl A0 2 c0 B0 m0 d0 2 hB0 ⟨8, 0, 2⟩ (num8_ok 2 (by omega) (by omega)).1 (num8_ok 2 (by omega) (by omega)).2 rfl rfl (by omega) (by omega) V (HR0.out.below h) (HS0.out.below h))
  simp only [Arr.vals, live0, Num.v, zeroVals] at HCI HCO
  clear HR0 HS0
  go_wp2_with fail
  refine Calls.mono (Check_ok [live0, live1] live_ok _ _ _ w1 HR.out) ?_
  rintro e w2 ⟨rfl, hb2⟩
  clear l0 l1 l2 l3 l4 l5 l6 r5 hq
  obtain ⟨⟨l0, l1, l2, l3⟩, l4, l5, l6⟩ := HL.out _ hb2
  go_wp2_with fail
  refine Calls.mono (HCI.out _ hb2) ?_
  rintro e w3 ⟨g, B', rfl, hg0, hg1, _, _, hb3⟩
  have hb13 := hb2.trans (hb3.mono hb2.size)
  have hbA := hb13.alloc hb13.size (.cells #[.string ⟨#[99]⟩, .int .u8 4, .int .i64 64, .int .i64 0, .int .i64 0, .slice (some ⟨g, 0, none⟩) 2 2, .slice B' m0 m0] 38)
  clear l0 l1 l2 l3 l4 l5 l6
  obtain ⟨⟨l0, l1, l2, l3⟩, l4, l5, l6⟩ := HL.out _ hbA
  go_wp2_with fail
  refine Calls.mono (HCO.out _ hbA) ?_
  rintro e w4 ⟨rfl, hb4⟩
  have hbx := heap_alloc_new w3 (.cells #[.string ⟨#[99]⟩, .int .u8 4, .int .i64 64, .int .i64 0, .int .i64 0, .slice (some ⟨g, 0, none⟩) 2 2, .slice B' m0 m0] 38)
  have hbx4 := (hb4.block _ (Array.getElem?_eq_some_iff.1 hbx).1).trans hbx
  have hgA := heapOld w3 (.cells #[.string ⟨#[99]⟩, .int .u8 4, .int .i64 64, .int .i64 0, .int .i64 0, .slice (some ⟨g, 0, none⟩) 2 2, .slice B' m0 m0] 38) _ _ hg1
  have hg4 := (hb4.block _ (Array.getElem?_eq_some_iff.1 hgA).1).trans hgA
  have x5 : w4.cell? ⟨w3.heap.size, 5, none⟩ = some (.slice (some ⟨g, 0, none⟩) 2 2) := cellOf hbx4 5
  have y2 : w4.cell? ⟨g, 2, none⟩ = some (.int .u64 0) := cellOf hg4 2
  have y5 : w4.cell? ⟨g, 5, none⟩ = some (.int .u64 1) := cellOf hg4 5
  have hgl : g < w4.heap.size := (Array.getElem?_eq_some_iff.1 hg4).1
  have hxl : w3.heap.size < w4.heap.size := (Array.getElem?_eq_some_iff.1 hbx4).1
  have HB := aside (hbA.trans (hb4.mono hbA.size))
  have HB1 := aside hb1
  clear l0 l1 l2 l3 l4 l5 l6 hg1 hgA hg4 hbx hbx4 hbA hb13 hb3 hb2 hb1 HL HCI HCO HR HN
  go_wp2_with fail
  go_ret
  have hB := HB1.out.trans (HB.out.mono HB1.out.size)
  exact ⟨rfl, hB.alloc hB.size _⟩
end Go.Proofs.Ytanimonhnngfkaa
