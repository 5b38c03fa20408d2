/-
  What waits in a queue; there, Len; Put where there is no room.
-/
import Derived.Test.YtdgilloblfbklabGreatDoorQ1
import Derived.Test.YtdgilloblfbklabGreatDoorB3K
set_option linter.unusedVariables false
set_option linter.unusedSimpArgs false
namespace Go.Proofs.YtdgilloblfbklabGreatDoor.Own
open Go.RowKit

/-- A copy that waits: its port, its bytes. -/
abbrev Cp := Int × List Int
def zCp : Cp := (0, [])
/-- The box of a queue. -/
structure QBox (w : World) (q : Nat) (room : Nat) (ring : List Value) (ports : List Int) (fr n : Nat) : Prop where
  hp : w.heap[q]? = some (.cells (qcells room ring ports fr n).toArray 104 (0, 0))
  hr : ring.length = 64
  hq : ports.length = 64
section
variable {w : World} {q room : Nat} {ring : List Value} {ports : List Int} {fr n : Nat}
theorem QBox.cMade (h : QBox w q room ring ports fr n) : w.cell? ⟨q, 0, none⟩ = some (.int .i64 1) := (cellOf h.hp 0).trans (by rw [List.getElem?_toArray]; rfl)
theorem QBox.cRoom (h : QBox w q room ring ports fr n) : w.cell? ⟨q, 1, none⟩ = some (.int .i64 (room : Int)) := (cellOf h.hp 1).trans (by rw [List.getElem?_toArray]; rfl)
theorem QBox.cRing (h : QBox w q room ring ports fr n) (k : Nat) (hk : k < 64) : w.cell? ⟨q, 2 + k, none⟩ = some (ring.getD k (.slice none 0 0)) := (cellOf h.hp (2 + k)).trans (by
  rw [List.getElem?_toArray]
  unfold qcells
  rw [List.getElem?_append_right (by simp), List.getElem?_append_left (by simp; rw [h.hr]; omega)]
  simp [List.getD_eq_getElem?_getD, h.hr, hk])
theorem QBox.cPort (h : QBox w q room ring ports fr n) (k : Nat) (hk : k < 64) : w.cell? ⟨q, 66 + k, none⟩ = some (.int .i64 (ports.getD k 0)) := (cellOf h.hp (66 + k)).trans (by
  rw [List.getElem?_toArray]
  unfold qcells
  rw [List.getElem?_append_right (by simp; omega), List.getElem?_append_right (by simp; rw [h.hr]; omega), List.getElem?_append_left (by simp [nums_length, h.hr, h.hq]; omega)]
  have e : 66 + k - [Value.int .i64 1, .int .i64 (room : Int)].length - ring.length = k := by simp [h.hr]; omega
  rw [e]
  simp [nums, List.getD_eq_getElem?_getD, h.hq, hk])
theorem QBox.cFr (h : QBox w q room ring ports fr n) : w.cell? ⟨q, 130, none⟩ = some (.int .i64 (fr : Int)) := (cellOf h.hp 130).trans (by
  rw [List.getElem?_toArray]
  unfold qcells
  rw [List.getElem?_append_right (by simp), List.getElem?_append_right (by simp [h.hr]), List.getElem?_append_right (by simp [nums_length, h.hr, h.hq])]
  have e : 130 - [Value.int .i64 1, .int .i64 (room : Int)].length - ring.length - (nums .i64 ports).length = 0 := by simp [h.hr, nums_length, h.hq]
  rw [e]; rfl)
theorem QBox.cN (h : QBox w q room ring ports fr n) : w.cell? ⟨q, 131, none⟩ = some (.int .i64 (n : Int)) := (cellOf h.hp 131).trans (by
  rw [List.getElem?_toArray]
  unfold qcells
  rw [List.getElem?_append_right (by simp), List.getElem?_append_right (by simp [h.hr]), List.getElem?_append_right (by simp [nums_length, h.hr, h.hq])]
  have e : 131 - [Value.int .i64 1, .int .i64 (room : Int)].length - ring.length - (nums .i64 ports).length = 1 := by simp [h.hr, nums_length, h.hq]
  rw [e]; rfl)
theorem QBox.frozen (h : QBox w q room ring ports fr n) (i : Nat) : w.frozen? ⟨q, i, none⟩ = false := frozenOf h.hp i
theorem QBox.below {w' : World} (h : QBox w q room ring ports fr n) (hb : Below w.heap.size w w') : QBox w' q room ring ports fr n := ⟨(hb.block _ (Array.getElem?_eq_some_iff.1 h.hp).1).trans h.hp, h.hr, h.hq⟩
theorem QBox.lt (h : QBox w q room ring ports fr n) : q < w.heap.size := (Array.getElem?_eq_some_iff.1 h.hp).1
/-- A cell of the ring is written. -/
theorem QBox.setRing (h : QBox w q room ring ports fr n) (k : Nat) (hk : k < 64) (v : Value) : QBox (w.setCell ⟨q, 2 + k, none⟩ v) q room (ring.set k v) ports fr n := by
  refine ⟨?_, by simp [h.hr], h.hq⟩
  rw [setCell_heap h.hp (2 + k) v, List.setIfInBounds_toArray]
  congr 3
  unfold qcells
  rw [List.set_append_right _ _ (by simp), List.set_append_left _ _ (by simp [h.hr]; omega)]
  simp
theorem QBox.setPort (h : QBox w q room ring ports fr n) (k : Nat) (hk : k < 64) (x : Int) : QBox (w.setCell ⟨q, 66 + k, none⟩ (.int .i64 x)) q room ring (ports.set k x) fr n := by
  refine ⟨?_, h.hr, by simp [h.hq]⟩
  rw [setCell_heap h.hp (66 + k) (.int .i64 x), List.setIfInBounds_toArray]
  congr 3
  unfold qcells
  have e : 66 + k - [Value.int .i64 1, .int .i64 (room : Int)].length - ring.length = k := by simp [h.hr]; omega
  rw [List.set_append_right _ _ (by simp; omega), List.set_append_right _ _ (by simp [h.hr]; omega), e, List.set_append_left _ _ (by simp [nums_length, h.hq]; omega)]
  simp [nums, List.map_set]
theorem QBox.setFr (h : QBox w q room ring ports fr n) (x : Nat) : QBox (w.setCell ⟨q, 130, none⟩ (.int .i64 (x : Int))) q room ring ports x n := by
  refine ⟨?_, h.hr, h.hq⟩
  rw [setCell_heap h.hp 130 (.int .i64 (x : Int)), List.setIfInBounds_toArray]
  congr 3
  unfold qcells
  have e : 130 - [Value.int .i64 1, .int .i64 (room : Int)].length - ring.length - (nums .i64 ports).length = 0 := by simp [h.hr, nums_length, h.hq]
  rw [List.set_append_right _ _ (by simp), List.set_append_right _ _ (by simp [h.hr]), List.set_append_right _ _ (by simp [nums_length, h.hr, h.hq]), e]
  rfl
theorem QBox.setN (h : QBox w q room ring ports fr n) (x : Nat) : QBox (w.setCell ⟨q, 131, none⟩ (.int .i64 (x : Int))) q room ring ports fr x := by
  refine ⟨?_, h.hr, h.hq⟩
  rw [setCell_heap h.hp 131 (.int .i64 (x : Int)), List.setIfInBounds_toArray]
  congr 3
  unfold qcells
  have e : 131 - [Value.int .i64 1, .int .i64 (room : Int)].length - ring.length - (nums .i64 ports).length = 1 := by simp [h.hr, nums_length, h.hq]
  rw [List.set_append_right _ _ (by simp), List.set_append_right _ _ (by simp [h.hr]), List.set_append_right _ _ (by simp [nums_length, h.hr, h.hq]), e]
  rfl
end
/-- A copy's bytes, as the ring holds them. -/
def CpAt (w : World) (q : Nat) (v : Value) (xs : List Int) : Prop := ∃ A c, v = .slice A xs.length c ∧ xs.length ≤ c ∧ c ≤ 9223372036854775807 ∧ Reads w .u8 A xs.length xs ∧ (∀ ad, A = some ad → ad.spot = none ∧ ad.block ≠ q) ∧ FRow w (q + 1) v xs.length xs
theorem CpAt.of {w : World} {q : Nat} {v : Value} {xs : List Int} (h : FRow w (q + 1) v xs.length xs) : CpAt w q v xs := by
  have h' := h
  rcases h.2 with ⟨rfl, h0⟩ | ⟨g, cap, cur, rfl, h2, h3, h4, h5, h6, h7⟩
  · have hx : xs = [] := List.eq_nil_of_length_eq_zero h0
    subst hx
    exact ⟨none, 0, rfl, Nat.le_refl _, by omega, h'.rd, (fun ad e => by cases e), h'⟩
  · exact ⟨some ⟨g, 0, none⟩, cap, rfl, h4, by simpa [maxLen] using h5, h'.rd, fun ad e => by cases e; exact ⟨rfl, by show g ≠ q; omega⟩, h'⟩
theorem CpAt.fr {w : World} {q : Nat} {v : Value} {xs : List Int} (h : CpAt w q v xs) : FRow w (q + 1) v xs.length xs := by
  obtain ⟨A, c, _, _, _, _, _, h⟩ := h
  exact h
/-- What waits in a queue, in order. -/
structure QAt (w : World) (q room : Nat) (ring : List Value) (ports : List Int) (fr : Nat) (L : List Cp) : Prop where
  box : QBox w q room ring ports fr L.length
  hfr : fr < 64
  hL : L.length ≤ room
  hroom : room ≤ 64
  data : ∀ j, j < L.length → ports.getD ((fr + j) % 64) 0 = (L.getD j zCp).1 ∧ CpAt w q (ring.getD ((fr + j) % 64) (.slice none 0 0)) (L.getD j zCp).2
theorem CpAt.foot {w w' : World} {q : Nat} {v : Value} {xs : List Int} {F : Nat → Prop} (h : CpAt w q v xs) (hf : Foot F w w') (hF : ∀ k, v.ownBlock = some k → ¬ F k) : CpAt w' q v xs := CpAt.of (h.fr.foot hf hF)
theorem CpAt.below {w w' : World} {q : Nat} {v : Value} {xs : List Int} (h : CpAt w q v xs) (hb : Below w.heap.size w w') : CpAt w' q v xs := h.foot (Foot.ofBelow hb (fun _ => False)) (fun _ _ => not_false)
theorem QAt.below {w w' : World} {q room : Nat} {ring : List Value} {ports : List Int} {fr : Nat} {L : List Cp} (h : QAt w q room ring ports fr L) (hb : Below w.heap.size w w') : QAt w' q room ring ports fr L :=
  ⟨h.box.below hb, h.hfr, h.hL, h.hroom, fun j hj => ⟨(h.data j hj).1, (h.data j hj).2.below hb⟩⟩
theorem QAt.empty (w : World) (room : Nat) (h : room ≤ 64) : QAt (w.alloc (.cells (qz room) 104)) w.heap.size room (List.replicate 64 (.slice none 0 0)) (List.replicate 64 0) 0 [] :=
  ⟨⟨heap_alloc_new _ _, by simp, by simp⟩, by omega, by simp, h, fun j hj => by simp at hj⟩

theorem there_ok (w : World) (q room : Nat) (ring : List Value) (ports : List Int) (fr n : Nat) (h : QBox w q room ring ports fr n) : Calls Tryz.prog 18 #[.pointer (some ⟨q, 0, none⟩)] w fun e w' => e = .returned (.bool true) ∧ w' = w := by
  have h1 := h.cMade
  clear h
  go_enter Tryz.func18, Tryz.ntmps18
  go_wp2
  go_ret
  exact ⟨rfl, rfl⟩
theorem Len_ok (w : World) (q room : Nat) (ring : List Value) (ports : List Int) (fr n : Nat) (h : QBox w q room ring ports fr n) : Calls Tryz.prog 9 #[.pointer (some ⟨q, 0, none⟩)] w fun e w' => e = .returned (.int .i64 (n : Int)) ∧ w' = w := by
  have HT := aside' (there_ok w q room ring ports fr n h)
  have h1 := h.cN
  clear h
  go_enter Tryz.func9, Tryz.ntmps9
  go_wp2_with fail
  refine Calls.mono HT.out ?_
  rintro e w1 ⟨rfl, rfl⟩
  go_wp2
  go_ret
  exact ⟨rfl, rfl⟩
set_option maxRecDepth 100000 in
theorem Put_full (w : World) (q room : Nat) (ring : List Value) (ports : List Int) (fr n : Nat) (h : QBox w q room ring ports fr n) (hn : room ≤ n) (p : Int) (A : Option Addr) (m c : Nat) : Calls Tryz.prog 8 #[.pointer (some ⟨q, 0, none⟩), .agg #[.int .i64 p, .slice A m c]] w fun e w' => e = .returned (.int .i64 10) ∧ Below w.heap.size w w' := by
  have hb := (Below.refl w.heap.size w).alloc (Nat.le_refl _) (.cells #[.int .i64 p, .slice A m c] 37)
  have hq := h.below hb
  have HT := aside' (there_ok _ q room ring ports fr n hq)
  have h1 := hq.cN
  have h2 := hq.cRoom
  have hd : decide ((room : Int) ≤ (n : Int)) = true := decide_eq_true (by omega)
  have HB := aside' hb
  clear h hq hb
  go_enter Tryz.func8, Tryz.ntmps8
  go_wp2_with fail
  refine Calls.mono HT.out ?_
  rintro e w1 ⟨rfl, rfl⟩
  go_wp2_with fail
  go_quiet (fail)
  go_wp2
  go_ret
  exact ⟨rfl, below_drewN HB.out _⟩
end Go.Proofs.YtdgilloblfbklabGreatDoor.Own
