/-
  The maps of bits.Do, and Do of two numbers put together.
-/
import Derived.Test.YtipeeacplhgihaaCat
set_option linter.unusedVariables false
set_option linter.unusedSimpArgs false
namespace Go.Proofs.Ytipeeacplhgihaa
open Go.RowKit PkMath

def alikeEs : Array MapEntry := #[⟨.int .u8 5, .func (.func 27) #[] #[], 0⟩, ⟨.int .u8 6, .func (.func 29) #[] #[], 1⟩, ⟨.int .u8 7, .func (.func 31) #[] #[], 2⟩, ⟨.int .u8 8, .func (.func 33) #[] #[], 3⟩, ⟨.int .u8 9, .func (.func 34) #[] #[], 4⟩, ⟨.int .u8 10, .func (.func 35) #[] #[], 5⟩, ⟨.int .u8 17, .func (.func 36) #[] #[], 6⟩, ⟨.int .u8 18, .func (.func 38) #[] #[], 7⟩, ⟨.int .u8 19, .func (.func 39) #[] #[], 8⟩, ⟨.int .u8 20, .func (.func 41) #[] #[], 9⟩]
set_option maxHeartbeats 1000000 in
theorem alikes_any (w : World) : Calls Try.prog 21 #[] w fun e w' => e = .returned (.map (some w.heap.size)) ∧ w' = w.alloc (.map alikeEs 10) := by
  have hmm := @run_makeMap Try.prog
  have i0 := run_insert_last (P := Try.prog) w .u8 57 43 55 #[] 0 5 (.func (.func 27) #[] #[]) Try.underlying57 Try.underlying43 rfl
  have i1 := run_insert_last (P := Try.prog) w .u8 57 43 55 #[⟨.int .u8 5, .func (.func 27) #[] #[], 0⟩] 1 6 (.func (.func 29) #[] #[]) Try.underlying57 Try.underlying43 rfl
  have i2 := run_insert_last (P := Try.prog) w .u8 57 43 55 #[⟨.int .u8 5, .func (.func 27) #[] #[], 0⟩, ⟨.int .u8 6, .func (.func 29) #[] #[], 1⟩] 2 7 (.func (.func 31) #[] #[]) Try.underlying57 Try.underlying43 rfl
  have i3 := run_insert_last (P := Try.prog) w .u8 57 43 55 #[⟨.int .u8 5, .func (.func 27) #[] #[], 0⟩, ⟨.int .u8 6, .func (.func 29) #[] #[], 1⟩, ⟨.int .u8 7, .func (.func 31) #[] #[], 2⟩] 3 8 (.func (.func 33) #[] #[]) Try.underlying57 Try.underlying43 rfl
  have i4 := run_insert_last (P := Try.prog) w .u8 57 43 55 #[⟨.int .u8 5, .func (.func 27) #[] #[], 0⟩, ⟨.int .u8 6, .func (.func 29) #[] #[], 1⟩, ⟨.int .u8 7, .func (.func 31) #[] #[], 2⟩, ⟨.int .u8 8, .func (.func 33) #[] #[], 3⟩] 4 9 (.func (.func 34) #[] #[]) Try.underlying57 Try.underlying43 rfl
  have i5 := run_insert_last (P := Try.prog) w .u8 57 43 55 #[⟨.int .u8 5, .func (.func 27) #[] #[], 0⟩, ⟨.int .u8 6, .func (.func 29) #[] #[], 1⟩, ⟨.int .u8 7, .func (.func 31) #[] #[], 2⟩, ⟨.int .u8 8, .func (.func 33) #[] #[], 3⟩, ⟨.int .u8 9, .func (.func 34) #[] #[], 4⟩] 5 10 (.func (.func 35) #[] #[]) Try.underlying57 Try.underlying43 rfl
  have i6 := run_insert_last (P := Try.prog) w .u8 57 43 55 #[⟨.int .u8 5, .func (.func 27) #[] #[], 0⟩, ⟨.int .u8 6, .func (.func 29) #[] #[], 1⟩, ⟨.int .u8 7, .func (.func 31) #[] #[], 2⟩, ⟨.int .u8 8, .func (.func 33) #[] #[], 3⟩, ⟨.int .u8 9, .func (.func 34) #[] #[], 4⟩, ⟨.int .u8 10, .func (.func 35) #[] #[], 5⟩] 6 17 (.func (.func 36) #[] #[]) Try.underlying57 Try.underlying43 rfl
  have i7 := run_insert_last (P := Try.prog) w .u8 57 43 55 #[⟨.int .u8 5, .func (.func 27) #[] #[], 0⟩, ⟨.int .u8 6, .func (.func 29) #[] #[], 1⟩, ⟨.int .u8 7, .func (.func 31) #[] #[], 2⟩, ⟨.int .u8 8, .func (.func 33) #[] #[], 3⟩, ⟨.int .u8 9, .func (.func 34) #[] #[], 4⟩, ⟨.int .u8 10, .func (.func 35) #[] #[], 5⟩, ⟨.int .u8 17, .func (.func 36) #[] #[], 6⟩] 7 18 (.func (.func 38) #[] #[]) Try.underlying57 Try.underlying43 rfl
  have i8 := run_insert_last (P := Try.prog) w .u8 57 43 55 #[⟨.int .u8 5, .func (.func 27) #[] #[], 0⟩, ⟨.int .u8 6, .func (.func 29) #[] #[], 1⟩, ⟨.int .u8 7, .func (.func 31) #[] #[], 2⟩, ⟨.int .u8 8, .func (.func 33) #[] #[], 3⟩, ⟨.int .u8 9, .func (.func 34) #[] #[], 4⟩, ⟨.int .u8 10, .func (.func 35) #[] #[], 5⟩, ⟨.int .u8 17, .func (.func 36) #[] #[], 6⟩, ⟨.int .u8 18, .func (.func 38) #[] #[], 7⟩] 8 19 (.func (.func 39) #[] #[]) Try.underlying57 Try.underlying43 rfl
  have i9 := run_insert_last (P := Try.prog) w .u8 57 43 55 #[⟨.int .u8 5, .func (.func 27) #[] #[], 0⟩, ⟨.int .u8 6, .func (.func 29) #[] #[], 1⟩, ⟨.int .u8 7, .func (.func 31) #[] #[], 2⟩, ⟨.int .u8 8, .func (.func 33) #[] #[], 3⟩, ⟨.int .u8 9, .func (.func 34) #[] #[], 4⟩, ⟨.int .u8 10, .func (.func 35) #[] #[], 5⟩, ⟨.int .u8 17, .func (.func 36) #[] #[], 6⟩, ⟨.int .u8 18, .func (.func 38) #[] #[], 7⟩, ⟨.int .u8 19, .func (.func 39) #[] #[], 8⟩] 9 20 (.func (.func 41) #[] #[]) Try.underlying57 Try.underlying43 rfl
  simp only [List.push_toArray, List.nil_append, List.cons_append, Nat.zero_add, Nat.reduceAdd] at i0 i1 i2 i3 i4 i5 i6 i7 i8 i9
  go_enter Try.func21, Try.ntmps21
  go_wp2
  go_ret
  exact ⟨rfl, rfl⟩

def otherEs (h : Nat) : Array MapEntry := #[⟨.int .u8 12, .func (.func 42) #[] #[], 0⟩, ⟨.int .u8 13, .func (.func 45) #[] #[], 1⟩, ⟨.int .u8 14, .func (.func 46) #[] #[.pointer (some ⟨h, 0, none⟩)], 2⟩, ⟨.int .u8 21, .func (.func 47) #[] #[.pointer (some ⟨h, 0, none⟩)], 3⟩, ⟨.int .u8 22, .func (.func 48) #[] #[.pointer (some ⟨h, 0, none⟩)], 4⟩]
set_option maxHeartbeats 1000000 in
theorem others_any (w : World) : Calls Try.prog 22 #[] w fun e w' => e = .returned (.map (some (w.heap.size + 1))) ∧ w' = (w.alloc (.cells #[.int .i64 0, .int .u64 0, .int .u64 0] 33)).alloc (.map (otherEs w.heap.size) 5) := by
  have hmm := @run_makeMap Try.prog
  have i0 := run_insert_last (P := Try.prog) (w.alloc (.cells #[.int .i64 0, .int .u64 0, .int .u64 0] 33)) .u8 57 43 55 #[] 0 12 (.func (.func 42) #[] #[]) Try.underlying57 Try.underlying43 rfl
  have i1 := run_insert_last (P := Try.prog) (w.alloc (.cells #[.int .i64 0, .int .u64 0, .int .u64 0] 33)) .u8 57 43 55 #[⟨.int .u8 12, .func (.func 42) #[] #[], 0⟩] 1 13 (.func (.func 45) #[] #[]) Try.underlying57 Try.underlying43 rfl
  have i2 := run_insert_last (P := Try.prog) (w.alloc (.cells #[.int .i64 0, .int .u64 0, .int .u64 0] 33)) .u8 57 43 55 #[⟨.int .u8 12, .func (.func 42) #[] #[], 0⟩, ⟨.int .u8 13, .func (.func 45) #[] #[], 1⟩] 2 14 (.func (.func 46) #[] #[.pointer (some ⟨w.heap.size, 0, none⟩)]) Try.underlying57 Try.underlying43 rfl
  have i3 := run_insert_last (P := Try.prog) (w.alloc (.cells #[.int .i64 0, .int .u64 0, .int .u64 0] 33)) .u8 57 43 55 #[⟨.int .u8 12, .func (.func 42) #[] #[], 0⟩, ⟨.int .u8 13, .func (.func 45) #[] #[], 1⟩, ⟨.int .u8 14, .func (.func 46) #[] #[.pointer (some ⟨w.heap.size, 0, none⟩)], 2⟩] 3 21 (.func (.func 47) #[] #[.pointer (some ⟨w.heap.size, 0, none⟩)]) Try.underlying57 Try.underlying43 rfl
  have i4 := run_insert_last (P := Try.prog) (w.alloc (.cells #[.int .i64 0, .int .u64 0, .int .u64 0] 33)) .u8 57 43 55 #[⟨.int .u8 12, .func (.func 42) #[] #[], 0⟩, ⟨.int .u8 13, .func (.func 45) #[] #[], 1⟩, ⟨.int .u8 14, .func (.func 46) #[] #[.pointer (some ⟨w.heap.size, 0, none⟩)], 2⟩, ⟨.int .u8 21, .func (.func 47) #[] #[.pointer (some ⟨w.heap.size, 0, none⟩)], 3⟩] 4 22 (.func (.func 48) #[] #[.pointer (some ⟨w.heap.size, 0, none⟩)]) Try.underlying57 Try.underlying43 rfl
  simp only [List.push_toArray, List.nil_append, List.cons_append, Nat.zero_add, Nat.reduceAdd, World.size_alloc] at i0 i1 i2 i3 i4
  go_enter Try.func22, Try.ntmps22
  go_wp2
  go_ret
  exact ⟨rfl, rfl⟩

theorem alikes_none (w : World) :
    (Instr.lookup 57 (.map (some w.heap.size)) (.int .u8 14) true).run Try.prog (w.alloc (.map alikeEs 10)) = .ok (.tuple #[.nilFunc, .bool false]) (w.alloc (.map alikeEs 10)) := by
  have hc : (Instr.checkKey false 10000 43 (.int .u8 14)).run Try.prog (w.alloc (.map alikeEs 10)) = .ok () (w.alloc (.map alikeEs 10)) := MapKept.run_checkKey (k := .int .u8 14) Try.underlying43 (by simp [MapKept.IsKey]) false 9999
  have hb : (w.alloc (.map alikeEs 10)).heap[w.heap.size]? = some (.map alikeEs 10) := heap_alloc_new w _
  have he : alikeEs.isEmpty = false := rfl
  have hz : ∀ W : World, (zeroValue 55).run Try.prog W = .ok .nilFunc W := fun _ => by kernel_rfl
  have hf : Instr.findNow (.int .u8) (.int .u8 14) alikeEs.toList 0 = some none := by rfl
  simp [Instr.lookup, run_underlying Try.underlying57, MapKept.run_getObj_map hb, hc, he, MapKept.run_findKey Try.underlying43 hf, Result.andThen, hz]
theorem others_cat (w : World) (h : Nat) :
    (Instr.lookup 57 (.map (some w.heap.size)) (.int .u8 14) true).run Try.prog (w.alloc (.map (otherEs h) 5)) = .ok (.tuple #[.func (.func 46) #[] #[.pointer (some ⟨h, 0, none⟩)], .bool true]) (w.alloc (.map (otherEs h) 5)) := by
  have hc : (Instr.checkKey false 10000 43 (.int .u8 14)).run Try.prog (w.alloc (.map (otherEs h) 5)) = .ok () (w.alloc (.map (otherEs h) 5)) := MapKept.run_checkKey (k := .int .u8 14) Try.underlying43 (by simp [MapKept.IsKey]) false 9999
  have hb : (w.alloc (.map (otherEs h) 5)).heap[w.heap.size]? = some (.map (otherEs h) 5) := heap_alloc_new w _
  have he : (otherEs h).isEmpty = false := rfl
  have hf : Instr.findNow (.int .u8) (.int .u8 14) (otherEs h).toList 0 = some (some (2, .func (.func 46) #[] #[.pointer (some ⟨h, 0, none⟩)])) := by rfl
  simp [Instr.lookup, run_underlying Try.underlying57, MapKept.run_getObj_map hb, hc, he, MapKept.run_findKey Try.underlying43 hf, Result.andThen]

/-- The three boxes of Do. -/
structure D3 (w : World) (p : Nat) (a b : Num) (W : World) : Prop where
  ba : W.heap[p]? = some (.cells #[.int .i64 a.W, .int .u64 a.Hi, .int .u64 a.Lo] 33 (0, 0))
  bb : W.heap[p + 1]? = some (.cells #[.int .i64 b.W, .int .u64 b.Hi, .int .u64 b.Lo] 33 (0, 0))
  br : W.heap[p + 1 + 1]? = some (.cells #[.int .i64 0, .int .u64 0, .int .u64 0] 33 (0, 0))
  below : Below w.heap.size w W
theorem D3.next {w : World} {p : Nat} {a b : Num} {W W' : World} (h : D3 w p a b W) (hb : Below W.heap.size W W') : D3 w p a b W' :=
  ⟨(hb.block _ (Array.getElem?_eq_some_iff.1 h.ba).1).trans h.ba, (hb.block _ (Array.getElem?_eq_some_iff.1 h.bb).1).trans h.bb, (hb.block _ (Array.getElem?_eq_some_iff.1 h.br).1).trans h.br, h.below.trans (hb.mono h.below.size)⟩
theorem D3.alloc {w : World} {p : Nat} {a b : Num} {W : World} (h : D3 w p a b W) (o : Obj) : D3 w p a b (W.alloc o) := h.next ((Below.refl _ _).alloc (Nat.le_refl _) _)
theorem D3.cells {w : World} {p : Nat} {a b : Num} {W : World} (h : D3 w p a b W) :
    ((W.cell? ⟨p, 0, none⟩ = some (.int .i64 a.W) ∧ W.cell? ⟨p, 1, none⟩ = some (.int .u64 a.Hi) ∧ W.cell? ⟨p, 2, none⟩ = some (.int .u64 a.Lo)) ∧
      (W.cell? ⟨p + 1, 0, none⟩ = some (.int .i64 b.W) ∧ W.cell? ⟨p + 1, 1, none⟩ = some (.int .u64 b.Hi) ∧ W.cell? ⟨p + 1, 2, none⟩ = some (.int .u64 b.Lo))) ∧
    ((W.cell? ⟨p + 1 + 1, 0, none⟩ = some (.int .i64 0) ∧ W.cell? ⟨p + 1 + 1, 1, none⟩ = some (.int .u64 0) ∧ W.cell? ⟨p + 1 + 1, 2, none⟩ = some (.int .u64 0)) ∧
      (W.frozen? ⟨p + 1 + 1, 0, none⟩ = false ∧ W.frozen? ⟨p + 1 + 1, 1, none⟩ = false ∧ W.frozen? ⟨p + 1 + 1, 2, none⟩ = false)) :=
  ⟨⟨⟨cellOf h.ba 0, cellOf h.ba 1, cellOf h.ba 2⟩, cellOf h.bb 0, cellOf h.bb 1, cellOf h.bb 2⟩, ⟨cellOf h.br 0, cellOf h.br 1, cellOf h.br 2⟩, frozenOf h.br 0, frozenOf h.br 1, frozenOf h.br 2⟩

set_option maxRecDepth 100000 in
set_option maxHeartbeats 4000000 in
theorem do_cat (x y : Num) (hx : x.wf) (hy : y.wf) (ox : x.ok) (oy : y.ok) (hw : x.W + y.W ≤ 128) (i j : Int) (w : World) :
    Calls Try.prog 14 #[.int .u8 14, x.v, y.v, .int .i64 i, .int .i64 j] w fun e w' => e = .returned (.tuple #[(mkNum (x.W.toNat + y.W.toNat) (x.val * 2 ^ y.W.toNat + y.val)).v, .int .i64 0]) ∧ Below w.heap.size w w' := by
  have HCA : Aside (∀ p V, Calls Try.prog 46 #[x.v, y.v, .pointer p] V fun e w' => e = .returned (mkNum (x.W.toNat + y.W.toNat) (x.val * 2 ^ y.W.toNat + y.val)).v ∧ Below V.heap.size V w') := fun p V => cat_any x y hx hy ox oy hw p V
  have HX : Aside (∀ V, Calls Try.prog 16 #[x.v] V fun e w' => e = .returned (.bool true) ∧ Below V.heap.size V w') := fun V => check_good x hx ox V
  have HY : Aside (∀ V, Calls Try.prog 16 #[y.v] V fun e w' => e = .returned (.bool true) ∧ Below V.heap.size V w') := fun V => check_good y hy oy V
  have HD0 : Aside (D3 w w.heap.size x y (((w.alloc (.cells #[.int .i64 x.W, .int .u64 x.Hi, .int .u64 x.Lo] 33)).alloc (.cells #[.int .i64 y.W, .int .u64 y.Hi, .int .u64 y.Lo] 33)).alloc (.cells #[.int .i64 0, .int .u64 0, .int .u64 0] 33))) := by
    have h := three_new (Below.refl _ (((w.alloc (.cells #[.int .i64 x.W, .int .u64 x.Hi, .int .u64 x.Lo] 33)).alloc (.cells #[.int .i64 y.W, .int .u64 y.Hi, .int .u64 y.Lo] 33)).alloc (.cells #[.int .i64 0, .int .u64 0, .int .u64 0] 33)))
    exact ⟨h.1, h.2.1, h.2.2, (((Below.refl _ _).alloc (Nat.le_refl _) _).alloc (by simp) _).alloc (by simp; omega) _⟩
  obtain ⟨rw_, hrw⟩ : ∃ r : Int, r = ((x.W.toNat + y.W.toNat : Nat) : Int) := ⟨_, rfl⟩
  have hr1 : (rw_ == 0) = false := by have h1 := ox.1; have h2 := oy.1; simp; omega
  have HM : Aside ((mkNum (x.W.toNat + y.W.toNat) (x.val * 2 ^ y.W.toNat + y.val)).v = .agg #[.int .i64 rw_, .int .u64 (hiOf (x.val * 2 ^ y.W.toNat + y.val)), .int .u64 (loOf (x.val * 2 ^ y.W.toNat + y.val))]) := by rw [hrw]; rfl
  rw [HM.out] at HCA ⊢
  generalize hiOf (x.val * 2 ^ y.W.toNat + y.val) = h2 at *
  generalize loOf (x.val * 2 ^ y.W.toNat + y.val) = l2 at *
  unfold Num.v at *
  clear hrw hx hy ox oy hw HM
  generalize hpp : w.heap.size = p at *
  have HP : Aside (w.heap.size = p) := hpp
  go_enter Try.func14, Try.ntmps14
  go_wp2_with fail
  clear hpp
  generalize ((w.alloc (.cells #[.int .i64 x.W, .int .u64 x.Hi, .int .u64 x.Lo] 33)).alloc (.cells #[.int .i64 y.W, .int .u64 y.Hi, .int .u64 y.Lo] 33)).alloc (.cells #[.int .i64 0, .int .u64 0, .int .u64 0] 33) = W0 at *
  refine (alikes_any _).mono ?_
  rintro e w' ⟨rfl, rfl⟩
  have hl1 := alikes_none W0
  go_wp2_with fail
  refine (others_any _).mono ?_
  rintro e w' ⟨rfl, rfl⟩
  rw [World.size_alloc]
  have hl2 := others_cat ((W0.alloc (.map alikeEs 10)).alloc (.cells #[.int .i64 0, .int .u64 0, .int .u64 0] 33)) (W0.heap.size + 1)
  simp only [World.size_alloc] at hl2
  have d1 := ((HD0.out.alloc (.map alikeEs 10)).alloc (.cells #[.int .i64 0, .int .u64 0, .int .u64 0] 33)).alloc (.map (otherEs (W0.heap.size + 1)) 5)
  have D1 : Aside _ := d1
  obtain ⟨⟨⟨a0, a1, a2⟩, b0, b1, b2⟩, _⟩ := d1.cells
  clear d1
  go_wp2_with fail
  refine Calls.mono (HY.out _) ?_
  rintro e w5 ⟨rfl, hb5⟩
  have D5 : Aside (D3 w p x y w5) := D1.out.next hb5
  clear a0 a1 a2 b0 b1 b2 hb5 D1 hl1 hl2
  obtain ⟨⟨⟨a0, a1, a2⟩, b0, b1, b2⟩, _⟩ := D5.out.cells
  go_wp2_with fail
  refine Calls.mono (HX.out _) ?_
  rintro e w6 ⟨rfl, hb6⟩
  have D6 : Aside (D3 w p x y w6) := D5.out.next hb6
  clear a0 a1 a2 b0 b1 b2 hb6 D5
  obtain ⟨⟨⟨a0, a1, a2⟩, b0, b1, b2⟩, _⟩ := D6.out.cells
  go_wp2_with fail
  refine Calls.mono (HCA.out _ _) ?_
  rintro e w7 ⟨rfl, hb7⟩
  have D7 : Aside (D3 w p x y (w7.alloc (.cells #[.int .i64 rw_, .int .u64 h2, .int .u64 l2] 33))) := (D6.out.next hb7).alloc _
  clear a0 a1 a2 b0 b1 b2 hb7 D6
  obtain ⟨_, ⟨r0, r1, r2⟩, f0, f1, f2⟩ := D7.out.cells
  go_wp2
  refine bodyPost_ret (results_row_tmp rfl _ _ (p + 1 + 1) 33 _ (0,0) _ rfl (set3 D7.out.br _ _ _) Try.underlying33 rfl (by kernel_rfl)) rfl ⟨rfl, ?_⟩
  have hB := D7.out.below
  rw [HP.out] at hB
  exact ((hB.setCell (p := ⟨_, _, _⟩) (by show p ≤ p + 1 + 1; omega) _).setCell (p := ⟨_, _, _⟩) (by show p ≤ p + 1 + 1; omega) _).setCell (p := ⟨_, _, _⟩) (by show p ≤ p + 1 + 1; omega) _
end Go.Proofs.Ytipeeacplhgihaa
