/-
  A queue that is not there; rooms that may not be; so many that may not go; the document's queue: New, Put where there is no room.
-/
import Derived.Test.YtdgilloblfbklabGreatDoorSend
set_option linter.unusedVariables false
set_option linter.unusedSimpArgs false
set_option maxRecDepth 100000
namespace Go.Proofs.YtdgilloblfbklabGreatDoor.Own
open Go.RowKit

theorem New_err (room : Int) (h : room < 0 ∨ 64 < room) (w : World) : Calls Tryz.prog 5 #[.int .i64 room] w fun e w' => e = .returned (.tuple #[.pointer none, .int .i64 1]) ∧ w' = w := by
  rcases h with h | h
  · have hd : decide (room < 0) = true := decide_eq_true h
    go_enter Tryz.func5, Tryz.ntmps5
    go_wp2
    go_ret2
    exact ⟨rfl, rfl⟩
  · have hd : decide (room < 0) = false := decide_eq_false (by omega)
    have hd2 : decide (64 < room) = true := decide_eq_true h
    go_enter Tryz.func5, Tryz.ntmps5
    go_wp2
    go_ret2
    exact ⟨rfl, rfl⟩
theorem RNew_err (room : Int) (h : room < 0 ∨ 64 < room) (w : World) : Calls Tryz.prog 6 #[.int .i64 room] w fun e w' => e = .returned (.tuple #[.pointer none, .int .i64 1]) ∧ w' = w := by
  rcases h with h | h
  · have hd : decide (room < 0) = true := decide_eq_true h
    go_enter Tryz.func6, Tryz.ntmps6
    go_wp2
    go_ret2
    exact ⟨rfl, rfl⟩
  · have hd : decide (room < 0) = false := decide_eq_false (by omega)
    have hd2 : decide (64 < room) = true := decide_eq_true h
    go_enter Tryz.func6, Tryz.ntmps6
    go_wp2
    go_ret2
    exact ⟨rfl, rfl⟩
theorem RNew_ok (room : Nat) (h : room ≤ 64) (w : World) : Calls Tryz.prog 6 #[.int .i64 (room : Int)] w fun e w' => e = .returned (.tuple #[.pointer (some ⟨w.heap.size, 0, none⟩), .int .i64 0]) ∧ w' = w.alloc (.cells #[.int .i64 (room : Int), .slice none 0 0] 83) := by
  have hd : decide ((room : Int) < 0) = false := decide_eq_false (by omega)
  have hd2 : decide (64 < (room : Int)) = false := decide_eq_false (by omega)
  go_enter Tryz.func6, Tryz.ntmps6
  go_wp2
  go_ret2
  exact ⟨rfl, rfl⟩
theorem there_nil (w : World) : Calls Tryz.prog 18 #[.pointer none] w fun e w' => e = .returned (.bool false) ∧ w' = w := by
  go_enter Tryz.func18, Tryz.ntmps18
  go_wp2
  go_ret
  exact ⟨rfl, rfl⟩
theorem Len_nil (w : World) : Calls Tryz.prog 9 #[.pointer none] w fun e w' => e = .returned (.int .i64 0) ∧ w' = w := by
  have HT := aside' (there_nil w)
  go_enter Tryz.func9, Tryz.ntmps9
  go_wp2_with fail
  refine Calls.mono HT.out ?_
  rintro e w1 ⟨rfl, hw⟩
  have hw := hw
  subst hw
  go_wp2
  go_ret
  exact ⟨rfl, rfl⟩
theorem Put_nil (w : World) (p : Int) (A : Option Addr) (m c : Nat) : Calls Tryz.prog 8 #[.pointer none, .agg #[.int .i64 p, .slice A m c]] w fun e w' => e = .returned (.int .i64 2) ∧ Below w.heap.size w w' := by
  have hb := (Below.refl w.heap.size w).alloc (Nat.le_refl _) (.cells #[.int .i64 p, .slice A m c] 37)
  have HT := aside' (there_nil (w.alloc (.cells #[.int .i64 p, .slice A m c] 37)))
  have HB := aside' hb
  clear hb
  go_enter Tryz.func8, Tryz.ntmps8
  go_wp2_with fail
  refine Calls.mono HT.out ?_
  rintro e w1 ⟨rfl, hw⟩
  have hw := hw
  subst hw
  go_wp2
  go_ret
  exact ⟨rfl, HB.out⟩
theorem Send_nil (w : World) (n : Int) : Calls Tryz.prog 7 #[.pointer none, .int .i64 n] w fun e w' => e = .returned (.tuple #[.slice none 0 0, .int .i64 2]) ∧ w' = w := by
  have HT := aside' (there_nil w)
  go_enter Tryz.func7, Tryz.ntmps7
  go_wp2_with fail
  refine Calls.mono HT.out ?_
  rintro e w1 ⟨rfl, hw⟩
  have hw := hw
  subst hw
  go_wp2
  go_ret2
  exact ⟨rfl, rfl⟩
theorem Send_neg (w : World) (q room : Nat) (ring : List Value) (ports : List Int) (fr n : Nat) (h : QBox w q room ring ports fr n) (x : Int) (hx : x < 0) : Calls Tryz.prog 7 #[.pointer (some ⟨q, 0, none⟩), .int .i64 x] w fun e w' => e = .returned (.tuple #[.slice none 0 0, .int .i64 1]) ∧ w' = w := by
  have HT := aside' (there_ok w q room ring ports fr n h)
  have hd : decide (x < 0) = true := decide_eq_true hx
  clear h
  go_enter Tryz.func7, Tryz.ntmps7
  go_wp2_with fail
  refine Calls.mono HT.out ?_
  rintro e w1 ⟨rfl, hw⟩
  have hw := hw
  subst hw
  go_wp2
  go_ret2
  exact ⟨rfl, rfl⟩
/-- The document's queue: its block, its row of copies; each one's bytes are read where they came in (w). -/
structure RfAt (w W : World) (rq room : Nat) (row2 : Value) (L : List Cp) : Prop where
  hb : W.heap[rq]? = some (.cells #[.int .i64 (room : Int), row2] 83 (0, 0))
  hr : ∃ O : List (Int × Value), O.length = L.length ∧ W.ownsRow (rq + 1) 75 2 row2 L.length (outCells O) ∧ ∀ j, j < L.length → (O.getD j (0, .slice none 0 0)).1 = (L.getD j zCp).1 ∧ ∃ A c, (O.getD j (0, .slice none 0 0)).2 = .slice A (L.getD j zCp).2.length c ∧ Reads w .u8 A (L.getD j zCp).2.length (L.getD j zCp).2
theorem RfAt.lt {w W : World} {rq room : Nat} {row2 : Value} {L : List Cp} (h : RfAt w W rq room row2 L) : rq < W.heap.size := (Array.getElem?_eq_some_iff.1 h.hb).1
theorem RfAt.foot {w W W' : World} {rq room : Nat} {row2 : Value} {L : List Cp} {G : Nat → Prop} (h : RfAt w W rq room row2 L) (hf : Foot G W W') (h1 : ¬ G rq) (h2 : ∀ k, row2.ownBlock = some k → ¬ G k) : RfAt w W' rq room row2 L := by
  obtain ⟨O, o1, o2, o3⟩ := h.hr
  exact ⟨hf.blk h.hb h1, O, o1, hf.own o2 h2, o3⟩
theorem RfAt.later {w W W' : World} {rq room : Nat} {row2 : Value} {L : List Cp} (h : RfAt w W rq room row2 L) (hb : Below W.heap.size W W') : RfAt w W' rq room row2 L := h.foot (Foot.ofBelow hb (fun _ => False)) (fun h => h) (fun _ _ h => h)
theorem RfAt.form {w W : World} {rq room : Nat} {row2 : Value} {L : List Cp} (h : RfAt w W rq room row2 L) : ∃ A c, row2 = .slice A L.length c ∧ L.length ≤ c := by
  obtain ⟨O, o1, o2, o3⟩ := h.hr
  rcases o2.2 with ⟨h1, h2⟩ | ⟨g, cap, cur, h1, h2, h3, h4, _⟩
  · exact ⟨none, 0, by rw [h1, h2], by omega⟩
  · exact ⟨_, cap, h1, h4⟩
theorem RPut_full {w W : World} {rq room : Nat} {row2 : Value} {L : List Cp} (h : RfAt w W rq room row2 L) (hl : room ≤ L.length) (p : Int) (A : Option Addr) (m c : Nat) :
    Calls Tryz.prog 11 #[.pointer (some ⟨rq, 0, none⟩), .agg #[.int .i64 p, .slice A m c]] W fun e w' => e = .returned (.int .i64 10) ∧ Below W.heap.size W w' := by
  have hb := (Below.refl W.heap.size W).alloc (Nat.le_refl _) (.cells #[.int .i64 p, .slice A m c] 75)
  have hq := h.later hb
  have HB := aside' hb
  obtain ⟨A2, c2, rfl, _⟩ := h.form
  have c0 := cellOf hq.hb 0
  have c1 := cellOf hq.hb 1
  simp only [List.getElem?_toArray, List.getElem?_cons_zero, List.getElem?_cons_succ] at c0 c1
  have hd : decide ((room : Int) ≤ (L.length : Int)) = true := decide_eq_true (by omega)
  clear h hb hq
  generalize L.length = n at *
  go_enter Tryz.func11, Tryz.ntmps11
  go_wp2_with fail
  go_quiet (fail)
  go_wp2
  go_ret
  exact ⟨rfl, below_drewN HB.out _⟩
end Go.Proofs.YtdgilloblfbklabGreatDoor.Own
