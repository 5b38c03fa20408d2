/-
  What Queue.Send gives; slices.Clip of copies.
-/
import Derived.Test.YtdgilloblfbklabGreatDoorPut
import Derived.Test.YtdgilloblfbklabGreatDoorAppendCells
set_option linter.unusedVariables false
set_option linter.unusedSimpArgs false
namespace Go.Proofs.YtdgilloblfbklabGreatDoor.Own
open Go.RowKit

theorem exec_append {P : Program} {o : Oper} {a : Act} {W W1 : World} {v1 v x : Value} {s y : Operand} {t : TypeId} (ho : o.op = .call { callee := .builtin .append, args := #[s, y], argTypes := #[t, t] })
    (hs : a.eval s = v) (hx : a.eval y = x) (hr : (Builtin.append_ #[t, t] o.type #[v, x]).run P W = .ok v1 W1) : (execOp a.eval o).run P W = .ok (.value v1) W1 := by
  unfold execOp
  simp only [ho, resolve, invoke, builtin, Sem.run_bind, Sem.run_pure, Result.andThen_ok, List.map_toArray, List.map_cons, List.map_nil, hs, hx, hr]
theorem infoCopy : ((Tryz.prog.info? 37).map fun i => (i.zero, i.size, i.bytes)) = some (some (.agg #[.int .i64 0, .slice none 0 0]), 2, 32) := by kernel_rfl
/-- The cells of copies. -/
def outCells (O : List (Int × Value)) : List Value := O.flatMap fun x => [.int .i64 x.1, x.2]
theorem outCells_append (O O' : List (Int × Value)) : outCells (O ++ O') = outCells O ++ outCells O' := by simp [outCells]
theorem outCells_length (O : List (Int × Value)) : (outCells O).length = O.length * 2 := by
  induction O with
  | nil => rfl
  | cons x O ih => simp only [outCells, List.flatMap_cons, List.length_append, List.length_cons, List.length_nil] at ih ⊢; omega
theorem outCells_get (O : List (Int × Value)) (j : Nat) (hj : j < O.length) : (outCells O)[2 * j]? = some (.int .i64 (O.getD j (0, .slice none 0 0)).1) ∧ (outCells O)[2 * j + 1]? = some (O.getD j (0, .slice none 0 0)).2 := by
  induction O generalizing j with
  | nil => simp at hj
  | cons x O ih =>
    cases j with
    | zero => simp [outCells]
    | succ j =>
      obtain ⟨h1, h2⟩ := ih j (by simpa using hj)
      have e1 : 2 * (j + 1) = 2 * j + 1 + 1 := by omega
      rw [e1]
      simp only [outCells, List.flatMap_cons, List.cons_append, List.nil_append, List.getElem?_cons_succ, List.getD_cons_succ] at h1 h2 ⊢
      exact ⟨h1, h2⟩
theorem QBox.grown {w w' : World} {q room : Nat} {ring : List Value} {ports : List Int} {fr n : Nat} {row : Option Nat} (h : QBox w q room ring ports fr n) (hg : w.grownBy w' row) (hr : row = some q → False) : QBox w' q room ring ports fr n :=
  ⟨(hg.block q h.lt (fun e => hr e.symm)).trans h.hp, h.hr, h.hq⟩
theorem QBox.drew {w : World} {q room : Nat} {ring : List Value} {ports : List Int} {fr n : Nat} (h : QBox w q room ring ports fr n) : QBox w.drew q room ring ports fr n := h.below (Below.refl _ _).drew
theorem own_alloc' {w : World} {base n : Nat} {e : TypeId} {size : Nat} {v : Value} {xs : List Value} (h : w.ownsRow base e size v n xs) (o : Obj) : (w.alloc o).ownsRow base e size v n xs := ((Foot.refl (fun _ => False) w).alloc o).own h (fun _ _ => not_false)
theorem own_drew' {w : World} {base n : Nat} {e : TypeId} {size : Nat} {v : Value} {xs : List Value} (h : w.ownsRow base e size v n xs) : w.drew.ownsRow base e size v n xs := h
theorem own_blk {w : World} {base n : Nat} {e : TypeId} {size : Nat} {v : Value} {xs : List Value} (h : w.ownsRow base e size v n xs) : ∀ i, v.ownBlock = some i → base ≤ i := by
  intro i hi
  rcases h.2 with ⟨h1, _⟩ | ⟨g, cap, cur, h1, h2, _⟩
  · rw [h1] at hi; cases hi
  · rw [h1] at hi; injection hi with hi; subst hi; exact h2
/-- A copy's bytes, cut to what there is. -/
def ClAt (w : World) (q : Nat) (v0 v : Value) (xs : List Int) : Prop := ∃ A c, v0 = .slice A xs.length c ∧ v = .slice A xs.length xs.length ∧ FRow w (q + 1) v xs.length xs
theorem ClAt.footq {w w' : World} {q : Nat} {v0 v : Value} {xs : List Int} (h : ClAt w q v0 v xs) (hf : Foot (fun i => i = q) w w') : ClAt w' q v0 v xs := by
  obtain ⟨A, c, h0, hv, h3⟩ := h
  exact ⟨A, c, h0, hv, h3.foot hf (fun k hk e => by have := (h3.lt k hk).1; omega)⟩
/-- Copies that are read. -/
structure CpsAt (base : Nat) (w : World) (q : Nat) (A : Option Addr) (L : List Cp) (Vs : List Value) : Prop where
  ad : 0 < L.length → ∃ g, A = some ⟨g, 0, none⟩ ∧ base ≤ g ∧ g < w.heap.size ∧ g ≠ q
  at_ : ∀ g, A = some ⟨g, 0, none⟩ → ∀ j, j < L.length → w.cell? ⟨g, 2 * j, none⟩ = some (.int .i64 (L.getD j zCp).1) ∧ ∃ v, w.cell? ⟨g, 2 * j + 1, none⟩ = some v ∧ ClAt w q (Vs.getD j (.slice none 0 0)) v (L.getD j zCp).2
/-- A row of the call's own, of copies. -/
theorem CpsAt.own {w : World} {q base t : Nat} {A : Option Addr} {c : Nat} {O : List (Int × Value)} {L : List Cp} {Vs : List Value} (h : w.ownsRow base 37 2 (.slice A t c) t (outCells O)) (hq : q < base) (hO : O.length = t) (hL : L.length = t)
    (hd : ∀ j, j < t → (O.getD j (0, .slice none 0 0)).1 = (L.getD j zCp).1 ∧ ClAt w q (Vs.getD j (.slice none 0 0)) (O.getD j (0, .slice none 0 0)).2 (L.getD j zCp).2) : CpsAt base w q A L Vs := by
  refine ⟨fun h0 => ?_, fun g hA j hj => ?_⟩
  · obtain ⟨g, c', h1, h2, h3, _⟩ := own_some h (by omega)
    injection h1 with h1
    exact ⟨g, h1, h2, h3, by omega⟩
  · subst hA
    obtain ⟨h1, h2⟩ := outCells_get O j (by omega)
    obtain ⟨d1, d2⟩ := hd j (by omega)
    rw [← d1]
    have c1 := h.cells (g := g) rfl (2 * j) _ h1
    have c2 := h.cells (g := g) rfl (2 * j + 1) _ h2
    rw [add_plain] at c1 c2
    exact ⟨c1, _, c2, d2⟩
set_option maxRecDepth 100000 in
theorem Clip_copies (A : Option Addr) (L c : Nat) (w : World) (hL : L ≤ c) (hc : c ≤ 9223372036854775807) (hA : ∀ ad, A = some ad → ad.spot = none) :
    Calls Tryz.prog 20 #[.slice A L c] w fun e w' => e = .returned (.slice A L L) ∧ w' = w := by
  have hL0 : (0 : Int) ≤ (L : Int) := by omega
  have hLc : (L : Int) ≤ (c : Int) := by omega
  have hsl : ∀ W : World, (Instr.slice 31 (.slice A L c) none (some (.int .i64 (L : Int))) (some (.int .i64 (L : Int)))).run Tryz.prog W = .ok (.slice A L L) W := by
    intro W
    rw [run_slice_hm (P := Tryz.prog) W 31 A L c (by kernel_rfl) .i64 .i64 (L : Int) (L : Int) (by omega) (by omega) (by omega)]
    have hsz : (sizeOf (Tryz.prog.elem 31)).run Tryz.prog W = .ok 2 W := by kernel_rfl
    rw [hsz]
    rcases A with _ | ⟨b, off, spot⟩
    · simp [sliced, Result.andThen]
    · have := hA _ rfl
      simp only at this
      subst this
      simp [sliced, Result.andThen, Addr.add_lit]
  clear hA
  go_enter Tryz.func20, Tryz.ntmps20
  go_wp2_with fail
  go_ret
  exact ⟨rfl, rfl⟩
end Go.Proofs.YtdgilloblfbklabGreatDoor.Own
