/-
  What the walks of this seat share: a frame of the memory by a set of blocks; slices of whole numbers that are read or owned.
-/
import Derived.WalkKit
import Derived.ProofKit
import Derived.KernelRfl
import Derived.Deep.RegionHeld3
import Derived.Deep.AppendLies
import Derived.Deep.QuietTactic
import Derived.BigQuiet
import Derived.Maps.AppendAt
import Derived.Deep.OwnRows
import Derived.Deep.LoopGhost
import Derived.Outline
import Derived.Deep.RegionLaw
import Derived.Laws.EntriesVeiled
import Derived.Laws.ResultCell
import Derived.Laws.OwnMore
import Derived.Laws.Rows
import Derived.SizedLaws
import Derived.Deep.Slices
import Derived.OpenShut
import Derived.ChangeArms
import Derived.Test.YtmoakgkoahjijaaGreatDoorProg
import Derived.Laws.BitsLemmas
import Derived.StillTailTactics
import Derived.Deep.Quiet
import Derived.OrdersIn
import Derived.TacticsIn
import Derived.CallsIn
import Derived.RangeFuncCalls
import Derived.OrdersHeld
import Derived.Deep.DeepCutAuto
import Derived.RangeFuncNested
import Derived.RangeFuncBound
import Derived.RangeFuncLeaves
import Derived.Shelf.Abstract
import Derived.Shelf.RegionOpen
import Derived.OwnWalkIn
import Derived.TacticsInMore
import Derived.LoopNIn
import Derived.LoopIn
import Derived.Laws.MakeOwn
import Derived.BigRegion
set_option linter.unusedVariables false
set_option linter.unusedSimpArgs false
namespace Go.Proofs.YtmoakgkoahjijaaGreatDoor
open Go.RowKit

/-- Behind the call all blocks that were there and are none of F's are as they were. -/
structure Foot (F : Nat → Prop) (w w' : World) : Prop where
  os : w'.os = w.os
  tape : w'.tape = w.tape
  output : w'.output = w.output
  size : w.heap.size ≤ w'.heap.size
  block : ∀ k, k < w.heap.size → ¬ F k → w'.heap[k]? = w.heap[k]?

theorem Foot.refl (F : Nat → Prop) (w : World) : Foot F w w := ⟨rfl, rfl, rfl, Nat.le_refl _, fun _ _ _ => rfl⟩
theorem Foot.trans {F G : Nat → Prop} {a b c : World} (h : Foot F a b) (k : Foot G b c) (hG : ∀ i, G i → F i ∨ a.heap.size ≤ i) : Foot F a c :=
  ⟨k.os.trans h.os, k.tape.trans h.tape, k.output.trans h.output, Nat.le_trans h.size k.size, fun i hi hF => by
    rw [k.block i (Nat.lt_of_lt_of_le hi h.size) (fun g => (hG i g).elim hF (fun h' => absurd h' (Nat.not_le.2 hi)))]
    exact h.block i hi hF⟩
theorem Foot.drew {F : Nat → Prop} {a b : World} (h : Foot F a b) : Foot F a b.drew := ⟨h.os, h.tape, h.output, h.size, h.block⟩
theorem Foot.drewN {F : Nat → Prop} {a b : World} (h : Foot F a b) (n : Nat) : Foot F a (b.drewN n) := ⟨h.os, h.tape, h.output, h.size, h.block⟩
theorem Foot.alloc {F : Nat → Prop} {a b : World} (h : Foot F a b) (o : Obj) : Foot F a (b.alloc o) :=
  ⟨h.os, h.tape, h.output, Nat.le_trans h.size (by simp), fun i hi hF => by rw [Below.heap_alloc _ _ _ (Nat.lt_of_lt_of_le hi h.size)]; exact h.block i hi hF⟩
theorem Foot.setCell {F : Nat → Prop} {a b : World} (h : Foot F a b) {p : Addr} (hp : F p.block ∨ a.heap.size ≤ p.block) (u : Value) : Foot F a (b.setCell p u) :=
  ⟨h.os, h.tape, h.output, Nat.le_trans h.size (by simp [World.setCell]), fun i hi hF => by
    rw [Below.heap_setCell _ _ _ _ (by rintro rfl; rcases hp with hp | hp; exact hF hp; exact absurd hp (Nat.not_le.2 hi))]; exact h.block i hi hF⟩
theorem Foot.grown {F : Nat → Prop} {a b c : World} {row : Option Nat} (h : Foot F a b) (hg : b.grownBy c row) (hr : ∀ k, row = some k → F k ∨ a.heap.size ≤ k) : Foot F a c :=
  ⟨hg.os.trans h.os, hg.tape.trans h.tape, hg.output.trans h.output, Nat.le_trans h.size hg.size, fun i hi hF => by
    rw [hg.block i (Nat.lt_of_lt_of_le hi h.size) (fun e => (hr i e.symm).elim hF (fun h' => absurd h' (Nat.not_le.2 hi)))]; exact h.block i hi hF⟩
theorem Foot.mono {F G : Nat → Prop} {a b : World} (h : Foot F a b) (hG : ∀ i, i < a.heap.size → F i → G i) : Foot G a b :=
  ⟨h.os, h.tape, h.output, h.size, fun i hi hF => h.block i hi (fun f => hF (hG i hi f))⟩
theorem Foot.below {F : Nat → Prop} {a b : World} {B : Nat} (h : Foot F a b) (hF : ∀ i, F i → B ≤ i) (hB : B ≤ a.heap.size) : Below B a b :=
  ⟨h.os, h.tape, h.output, h.size, fun k hk => h.block k (by omega) (fun f => absurd (hF k f) (Nat.not_le.2 hk))⟩
theorem Foot.ofBelow {a b : World} (h : Below a.heap.size a b) (F : Nat → Prop) : Foot F a b := ⟨h.os, h.tape, h.output, h.size, fun k hk _ => h.block k hk⟩
theorem Foot.blk {F : Nat → Prop} {a b : World} (h : Foot F a b) {g : Nat} {o : Obj} (hb : a.heap[g]? = some o) (hF : ¬ F g) : b.heap[g]? = some o :=
  (h.block g (Array.getElem?_eq_some_iff.1 hb).1 hF).trans hb
theorem Foot.cell {F : Nat → Prop} {a b : World} (h : Foot F a b) {p : Addr} {v : Value} (hc : a.cell? p = some v) (hF : ¬ F p.block) : b.cell? p = some v :=
  (World.cell?_of_block (w := a) (h.block p.block (World.block_lt_of_cell? a p hc) hF)).trans hc
theorem Foot.own {F : Nat → Prop} {a b : World} (h : Foot F a b) {base : Nat} {e : TypeId} {size : Nat} {v : Value} {n : Nat} {xs : List Value} (ho : a.ownsRow base e size v n xs) (hF : ∀ k, v.ownBlock = some k → ¬ F k) : b.ownsRow base e size v n xs := by
  obtain ⟨h1, h2⟩ := ho
  refine ⟨h1, ?_⟩
  rcases h2 with h2 | ⟨g, cap, cur, hv, hg, hh, r⟩
  · exact .inl h2
  · exact .inr ⟨g, cap, cur, hv, hg, h.blk hh (hF g (by rw [hv]; rfl)), r⟩

/-- Whole numbers as values. -/
def nums (k : IntKind) (xs : List Int) : List Value := xs.map fun x => .int k x
theorem nums_length (k : IntKind) (xs : List Int) : (nums k xs).length = xs.length := by simp [nums]
theorem nums_append (k : IntKind) (xs ys : List Int) : nums k (xs ++ ys) = nums k xs ++ nums k ys := by simp [nums]
def rd (xs : List Int) (i : Int) : Int := xs.getD i.toNat 0

/-- A slice that is read: nil, empty and other slices alike. -/
def Reads (w : World) (k : IntKind) (A : Option Addr) (n : Nat) (xs : List Int) : Prop :=
  xs.length = n ∧ n ≤ 9223372036854775807 ∧ (0 < n → ∃ ad, A = some ad ∧ ∀ j, j < n → w.cell? (ad.add j) = some (.int k (xs.getD j 0)))
theorem Reads.at_ {w : World} {k : IntKind} {A : Option Addr} {n : Nat} {xs : List Int} (h : Reads w k A n xs) (i : Int) (h0 : 0 ≤ i) (h1 : i < n) : ∃ ad, A = some ad ∧ w.cell? (ad.add i.toNat) = some (.int k (rd xs i)) := by
  obtain ⟨ad, e, hc⟩ := h.2.2 (by omega)
  exact ⟨ad, e, hc _ (by omega)⟩
theorem add_block (a : Addr) (i : Nat) : (a.add i).block = a.block := by unfold Addr.add; split <;> rfl
theorem Reads.foot {w w1 : World} {k : IntKind} {A : Option Addr} {n : Nat} {xs : List Int} {F : Nat → Prop} (h : Reads w k A n xs) (hb : Foot F w w1) (hF : ∀ ad, A = some ad → 0 < n → ¬ F ad.block) : Reads w1 k A n xs :=
  ⟨h.1, h.2.1, fun hn => by
    obtain ⟨ad, e, hc⟩ := h.2.2 hn
    exact ⟨ad, e, fun j hj => hb.cell (hc j hj) (by rw [add_block]; exact hF ad e hn)⟩⟩
theorem Reads.below {w w1 : World} {k : IntKind} {A : Option Addr} {n : Nat} {xs : List Int} (h : Reads w k A n xs) (hb : Below w.heap.size w w1) : Reads w1 k A n xs :=
  h.foot (Foot.ofBelow hb (fun _ => False)) (fun _ _ _ => not_false)
/-- The place of a slice that is not empty, written out. -/
theorem Reads.plain {w : World} {k : IntKind} {A : Option Addr} {n : Nat} {xs : List Int} (h : Reads w k A n xs) (hn : 0 < n) : ∃ b off, A = some ⟨b, off, none⟩ ∧ b < w.heap.size ∧ ∀ j, j < n → w.cell? ⟨b, off + j, none⟩ = some (.int k (xs.getD j 0)) := by
  obtain ⟨ad, e, hc⟩ := h.2.2 hn
  obtain ⟨b, off, spot⟩ := ad
  have h0 := hc 0 hn
  have hs : spot = none := by simpa [Addr.add] using World.cell?_spot h0
  subst hs
  refine ⟨b, off, e, ?_, fun j hj => ?_⟩
  · have := World.block_lt_of_cell? w _ h0
    rwa [add_block] at this
  · have := hc j hj
    rwa [Addr.add_lit] at this
theorem Reads.nil (w : World) (k : IntKind) : Reads w k none 0 [] := ⟨rfl, by omega, fun h => by omega⟩
theorem Reads.take_ {w : World} {k : IntKind} {A : Option Addr} {n : Nat} {xs : List Int} (h : Reads w k A n xs) (i : Nat) (hi : i ≤ n) : Reads w k A i (xs.take i) := by
  obtain ⟨h1, h2, h3⟩ := h
  refine ⟨by simp; omega, by omega, fun hn => ?_⟩
  obtain ⟨ad, e, hc⟩ := h3 (by omega)
  refine ⟨ad, e, fun j hj => ?_⟩
  rw [hc j (by omega)]
  simp [List.getElem?_take, hj]
theorem Reads.block_lt {w : World} {k : IntKind} {A : Option Addr} {n : Nat} {xs : List Int} (h : Reads w k A n xs) : ∀ ad, A = some ad → 0 < n → ad.block < w.heap.size := by
  intro ad e hn
  obtain ⟨ad', e', hc⟩ := h.2.2 hn
  obtain rfl : ad = ad' := by rw [e] at e'; injection e'
  have := World.block_lt_of_cell? w _ (hc 0 hn)
  rwa [add_block] at this
theorem add_plain (g j : Nat) : (⟨g, 0, none⟩ : Addr).add j = ⟨g, j, none⟩ := by unfold Addr.add; split <;> simp_all
theorem own_reads {w : World} {base n : Nat} {e : TypeId} {k : IntKind} {v : Value} {xs : List Int} (h : w.ownsRow base e 1 v n (nums k xs)) : ∃ A c, v = .slice A n c ∧ n ≤ c ∧ Reads w k A n xs := by
  have hl : xs.length = n := by have := h.1; simpa [nums] using this
  rcases h.2 with ⟨rfl, rfl⟩ | ⟨g, cap, cur, rfl, hb, hh, hnc, hcm, hcs, ht⟩
  · exact ⟨none, 0, rfl, Nat.le_refl _, hl, by omega, fun h => by omega⟩
  · refine ⟨some ⟨g, 0, none⟩, cap, rfl, hnc, hl, by unfold maxLen at hcm; omega, fun hn => ⟨_, rfl, fun j hj => ?_⟩⟩
    have hc := h.cells (g := g) rfl j (.int k (xs.getD j 0)) (by simp [nums, List.getElem?_eq_getElem (show j < xs.length by omega), List.getD_eq_getElem?_getD])
    exact hc

theorem cellOf {w : World} {g : Nat} {cs : Array Value} {t : TypeId} (h : w.heap[g]? = some (.cells cs t (0, 0))) (i : Nat) : w.cell? ⟨g, i, none⟩ = cs[i]? := by simp [World.cell?, h]
theorem frozenOf {w : World} {g : Nat} {cs : Array Value} {t : TypeId} (h : w.heap[g]? = some (.cells cs t (0, 0))) (i : Nat) : w.frozen? ⟨g, i, none⟩ = false := by simp [World.frozen?, h]
/-- A block of cells, one of them being written. -/
theorem setCell_heap {w : World} {g : Nat} {cs : Array Value} {t : TypeId} {fr : Nat × Nat} (h : w.heap[g]? = some (.cells cs t fr)) (j : Nat) (v : Value) : (w.setCell ⟨g, j, none⟩ v).heap[g]? = some (.cells (cs.setIfInBounds j v) t fr) := by
  simp [World.setCell, Array.getElem?_modify, h]
theorem set3 {w : World} {g : Nat} {a b c : Value} {t : TypeId} {fr : Nat × Nat} (h : w.heap[g]? = some (.cells #[a, b, c] t fr)) (x y z : Value) : (((w.setCell ⟨g, 0, none⟩ x).setCell ⟨g, 1, none⟩ y).setCell ⟨g, 2, none⟩ z).heap[g]? = some (.cells #[x, y, z] t fr) := by
  rw [setCell_heap (setCell_heap (setCell_heap h 0 x) 1 y) 2 z]
  rfl
/-- A struct and an Errno as results. -/
theorem results_row_tmp {P : Program} {fn : Func} {p u : Tmp} {ty : TypeId} (h : fn.results = #[.cell p ty, .tmp u]) (tmps : Array Value) (w : World) (g : Nat) (t : TypeId) (cs : Array Value) (fr : Nat × Nat) (d : TypeDesc)
    (hp : tmps.getD p undef = .pointer (some ⟨g, 0, none⟩)) (hg : w.heap[g]? = some (.cells cs t fr))
    (hu : P.underlying ty = some d) (hd : (match d with | .struct _ | .array _ _ => true | _ => false) = true) (hi : (P.info? ty).map (·.size) = some cs.size) :
    (results fn tmps).run P w = .ok (.tuple #[.agg cs, tmps.getD u undef]) w := by
  rw [results_cell_tmp h, hp]
  simp [asAddr, run_loadVar_row w g t ty cs fr d hg hu hd hi, Result.andThen]
theorem own_form {w : World} {base n : Nat} {e : TypeId} {size : Nat} {v : Value} {xs : List Value} (h : w.ownsRow base e size v n xs) : ∃ A L c, v = .slice A L c ∧ Aside (L = n) := by
  rcases h.2 with ⟨rfl, rfl⟩ | ⟨g, cap, cur, rfl, _⟩
  · exact ⟨_, _, _, rfl, rfl⟩
  · exact ⟨_, _, _, rfl, rfl⟩
/-- append(v, ys...): v a row of the call's own, ys any slice that is read. -/
theorem run_append_row {P : Program} {W : World} (base : Nat) (t ty e : TypeId) (k : IntKind) (bytes : Nat)
    (ht : P.underlying t = some (.slice e)) (hinfo : (P.info? e).map (fun i => (i.zero, i.size, i.bytes)) = some (some (.int k 0), 1, bytes)) (hb0 : 0 < bytes)
    (v : Value) (xs ys : List Int) (A : Option Addr) (m c : Nat)
    (HO : W.ownsRow base e 1 v xs.length (nums k xs)) (HR : Reads W k A m ys) (hbase : base ≤ W.heap.size) (hl : (xs.length + m) * bytes ≤ 140737488355328) :
    ∃ v1 w1, (Builtin.append_ #[t, t] ty #[v, .slice A m c]).run P W = .ok v1 w1 ∧ w1.ownsRow base e 1 v1 (xs ++ ys).length (nums k (xs ++ ys)) ∧ W.grownBy w1 v.ownBlock ∧ (v1.ownBlock = v.ownBlock ∨ v1.ownBlock = some W.heap.size) := by
  obtain ⟨i0, hi, hzz⟩ := Option.map_eq_some_iff.1 hinfo
  simp only [Prod.mk.injEq] at hzz
  obtain ⟨hz0, hz1, hz2⟩ := hzz
  have hm : ys.length = m := HR.1
  have hlen : xs.length + m ≤ 140737488355328 := Nat.le_trans (Nat.le_mul_of_pos_right _ hb0) hl
  rcases A with _ | ad
  · have h0 : m = 0 := by
      rcases Nat.eq_zero_or_pos m with h0 | h0
      · exact h0
      · obtain ⟨ad, h, _⟩ := HR.2.2 h0
        cases h
    subst h0
    obtain rfl : ys = [] := List.eq_nil_of_length_eq_zero hm
    refine ⟨v, W, ?_, by simpa using HO, World.grownBy.refl W _, .inl rfl⟩
    rcases HO.2 with ⟨rfl, hn⟩ | ⟨g, cap, cur, rfl, _, _, hnc, _⟩
    · simp [Builtin.append_, run_underlying ht, sizeOf, typeInfo, hi, Builtin.lenOf, Builtin.firstCells]
    · simp [Builtin.append_, run_underlying ht, sizeOf, typeInfo, hi, Builtin.lenOf, Builtin.firstCells, hnc, storeCells]
  · have hcells : ∀ j u, (nums k ys)[j]? = some u → W.cell? (ad.add j) = some u := by
      intro j u hu
      have hj : j < ys.length := by
        rcases Nat.lt_or_ge j ys.length with h | h
        · exact h
        · simp [nums, List.getElem?_eq_none h] at hu
      obtain ⟨ad', h', hc⟩ := HR.2.2 (by omega)
      injection h' with h'
      subst h'
      have := hc j (by omega)
      simp [nums, List.getElem?_eq_getElem hj] at hu
      subst hu
      rw [this]
      simp [List.getD_eq_getElem?_getD, List.getElem?_eq_getElem hj]
    obtain ⟨v1, w1, hr, h2, h3, _, h5⟩ := run_append_own_at (P := P) W base t ty e i0 (.int k 0) 1 bytes ht hi hz0 hz1 hz2 rfl (by omega) v xs.length (nums k xs) HO ad m c (nums k ys) (by simp [nums, hm]) hcells
      (by intro u hu; simp only [nums, List.mem_map] at hu; obtain ⟨q, _, rfl⟩ := hu; rfl) (by simp only [maxLen]; omega) hl hbase
    exact ⟨v1, w1, hr, by simpa [nums, hm] using h2, h3, h5⟩
theorem wp_append_row {P : Program} {o : Oper} {a : Act} {K : Act → World → Prop} {Q : Exit → Act → World → Prop} {W : World} (base : Nat) (s x : Operand) (t e : TypeId) (k : IntKind) (bytes : Nat)
    (ho : o.op = .call { callee := .builtin .append, args := #[s, x], argTypes := #[t, t] })
    (ht : P.underlying t = some (.slice e)) (hinfo : (P.info? e).map (fun i => (i.zero, i.size, i.bytes)) = some (some (.int k 0), 1, bytes)) (hb0 : 0 < bytes)
    (v : Value) (xs ys : List Int) (A : Option Addr) (m c : Nat) (hs : a.eval s = v) (hx : a.eval x = .slice A m c)
    (HO : W.ownsRow base e 1 v xs.length (nums k xs)) (HR : Reads W k A m ys) (hbase : base ≤ W.heap.size) (hl : (xs.length + m) * bytes ≤ 140737488355328)
    (h : ∀ v1 w1, w1.ownsRow base e 1 v1 (xs ++ ys).length (nums k (xs ++ ys)) → W.grownBy w1 v.ownBlock → (v1.ownBlock = v.ownBlock ∨ v1.ownBlock = some W.heap.size) → K (a.put o.dst v1) w1) :
    o.wp P a W K Q := by
  obtain ⟨v1, w1, hr, hown, hg, hat⟩ := run_append_row (P := P) (W := W) base t o.type e k bytes ht hinfo hb0 v xs ys A m c HO HR hbase hl
  unfold Oper.wp execOp
  simp only [ho, resolve, invoke, builtin, Sem.run_bind, Sem.run_pure, Result.andThen_ok, List.map_toArray, List.map_cons, List.map_nil, hs, hx, hr]
  exact h v1 w1 hown hg hat
/-- The law at a plain region's list. -/
theorem append_row {P : Program} {ops : Array Oper} {rest : List Oper} {o : Oper} {a : Act} {Q : Exit → Act → World → Prop} {W : World} (base : Nat) (hgd : o.guard = none) (s x : Operand) (t e : TypeId) (k : IntKind) (bytes : Nat)
    (ho : o.op = .call { callee := .builtin .append, args := #[s, x], argTypes := #[t, t] })
    (ht : P.underlying t = some (.slice e)) (hinfo : (P.info? e).map (fun i => (i.zero, i.size, i.bytes)) = some (some (.int k 0), 1, bytes)) (hb0 : 0 < bytes)
    (v : Value) (xs ys : List Int) (A : Option Addr) (m c : Nat) (hs : a.eval s = v) (hx : a.eval x = .slice A m c)
    (HO : W.ownsRow base e 1 v xs.length (nums k xs)) (HR : Reads W k A m ys) (hbase : base ≤ W.heap.size) (hl : (xs.length + m) * bytes ≤ 140737488355328)
    (h : ∀ v1 w1, w1.ownsRow base e 1 v1 (xs ++ ys).length (nums k (xs ++ ys)) → W.grownBy w1 v.ownBlock → (v1.ownBlock = v.ownBlock ∨ v1.ownBlock = some W.heap.size) → wpList P ops Q rest (a.put o.dst v1) w1) :
    wpList P ops Q (o :: rest) a W := by
  refine wpList_plain hgd fun K hK => ?_
  exact wp_append_row base s x t e k bytes ho ht hinfo hb0 v xs ys A m c hs hx HO HR hbase hl fun v1 w1 h1 h2 h3 => hK _ _ (h v1 w1 h1 h2 h3)
/-- The law at a step of a region that draws its order. -/
theorem step_append_row {P : Program} {ops : Array Oper} {o : Oper} {a : Act} {K : Act → World → Prop} {Q : Exit → Act → World → Prop} {E : Prop} {W : World} (base : Nat) (hgd : o.guard = none) (s x : Operand) (t e : TypeId) (k : IntKind) (bytes : Nat)
    (ho : o.op = .call { callee := .builtin .append, args := #[s, x], argTypes := #[t, t] })
    (ht : P.underlying t = some (.slice e)) (hinfo : (P.info? e).map (fun i => (i.zero, i.size, i.bytes)) = some (some (.int k 0), 1, bytes)) (hb0 : 0 < bytes)
    (v : Value) (xs ys : List Int) (A : Option Addr) (m c : Nat) (hs : a.eval s = v) (hx : a.eval x = .slice A m c)
    (HO : W.ownsRow base e 1 v xs.length (nums k xs)) (HR : Reads W k A m ys) (hbase : base ≤ W.heap.size) (hl : (xs.length + m) * bytes ≤ 140737488355328)
    (h : ∀ v1 w1, w1.ownsRow base e 1 v1 (xs ++ ys).length (nums k (xs ++ ys)) → W.grownBy w1 v.ownBlock → (v1.ownBlock = v.ownBlock ∨ v1.ownBlock = some W.heap.size) → K (a.put o.dst v1) w1) :
    if Region.wanted o (yielded ops a.tmps) = true then Oper.wp P o a W K Q else E := by
  have hw : Region.wanted o (yielded ops a.tmps) = true := by simp [Region.wanted, hgd]
  rw [if_pos hw]
  exact wp_append_row base s x t e k bytes ho ht hinfo hb0 v xs ys A m c hs hx HO HR hbase hl h
/-- What an append to a row of the call's own leaves below. -/
theorem own_grown {w w' : World} {base n : Nat} {e : TypeId} {size : Nat} {v : Value} {xs : List Value} (ho : w.ownsRow base e size v n xs) (hg : w.grownBy w' v.ownBlock) (hb : base ≤ w.heap.size) : Below base w w' :=
  Below.grown (Below.refl _ _) hg hb (by
    intro q hq
    rcases ho.2 with ⟨h1, _⟩ | ⟨g, cap, cur, h1, h2, _⟩
    · rw [h1] at hq; cases hq
    · rw [h1] at hq; injection hq with hq; subst hq; exact h2)
/-- A row of the call's own that is not empty. -/
theorem own_some {w : World} {base n : Nat} {e : TypeId} {size : Nat} {v : Value} {xs : List Value} (h : w.ownsRow base e size v n xs) (hn : 0 < n) : ∃ g c, v = .slice (some ⟨g, 0, none⟩) n c ∧ base ≤ g ∧ g < w.heap.size ∧ n ≤ c ∧ c ≤ 9223372036854775807 := by
  rcases h.2 with ⟨_, h0⟩ | ⟨g, cap, _, hv, hg, hb, hc, hm, _⟩
  · omega
  · exact ⟨g, cap, hv, hg, (Array.getElem?_eq_some_iff.1 hb).1, hc, by simpa [maxLen] using hm⟩
theorem own_at {w : World} {base n g c : Nat} {e : TypeId} {k : IntKind} {xs : List Int} (h : w.ownsRow base e 1 (.slice (some ⟨g, 0, none⟩) n c) n (nums k xs)) (j : Nat) (hj : j < n) : w.cell? ⟨g, j, none⟩ = some (.int k (xs.getD j 0)) := by
  have hl : xs.length = n := by have := h.1; simpa [nums] using this
  rw [h.cellAt j (by omega)]
  simp [nums, List.getD_eq_getElem?_getD, List.getElem?_eq_getElem (show j < xs.length by omega)]
theorem own_put {w : World} {base n g c : Nat} {e : TypeId} {k : IntKind} {xs : List Int} (h : w.ownsRow base e 1 (.slice (some ⟨g, 0, none⟩) n c) n (nums k xs)) (j : Nat) (x : Int) : (w.setCell ⟨g, j, none⟩ (.int k x)).ownsRow base e 1 (.slice (some ⟨g, 0, none⟩) n c) n (nums k (xs.set j x)) := by
  have := (h.stored j (.int k x)).1
  rwa [nums, List.map_set]
theorem own_rd {w : World} {base n g c : Nat} {e : TypeId} {k : IntKind} {xs : List Int} (h : w.ownsRow base e 1 (.slice (some ⟨g, 0, none⟩) n c) n (nums k xs)) : Reads w k (some ⟨g, 0, none⟩) n xs := by
  obtain ⟨A, c', hv, _, hr⟩ := own_reads h
  injection hv with h1 _ _
  rw [h1]; exact hr
/-- A row of the call's own, cut. -/
theorem own_cut {w : World} {base n m c : Nat} {e : TypeId} {k : IntKind} {A : Option Addr} {xs : List Int} (h : w.ownsRow base e 1 (.slice A n c) n (nums k xs)) (hm : m ≤ n) : w.ownsRow base e 1 (.slice A m c) m (nums k (xs.take m)) := by
  have hl : xs.length = n := by have := h.1; simpa [nums] using this
  refine ⟨by simp [nums]; omega, ?_⟩
  rcases h.2 with ⟨h1, rfl⟩ | ⟨g, cap, cur, h1, hb, hh, hnc, hcm, hcs, ht⟩
  · injection h1 with h1 h2 h3
    subst h1; subst h3
    obtain rfl : m = 0 := by omega
    exact .inl ⟨rfl, rfl⟩
  · injection h1 with h1 h2 h3
    subst h1; subst h3
    refine .inr ⟨g, c, cur, rfl, hb, hh, by omega, hcm, hcs, ?_⟩
    simp only [Nat.mul_one] at ht ⊢
    simp only [nums, List.map_take]
    rw [nums] at ht
    rw [← ht, List.take_take, Nat.min_eq_left hm]
theorem own_keep {w w' : World} {base n : Nat} {e : TypeId} {size : Nat} {v : Value} {xs : List Value} (h : w.ownsRow base e size v n xs) (hb : Below w.heap.size w w') : w'.ownsRow base e size v n xs := by
  refine ⟨h.1, h.2.elim .inl ?_⟩
  rintro ⟨g, cap, cur, h1, h2, h3, r⟩
  exact .inr ⟨g, cap, cur, h1, h2, (hb.block g (Array.getElem?_eq_some_iff.1 h3).1).trans h3, r⟩
theorem own_rd' {w : World} {base n c : Nat} {e : TypeId} {k : IntKind} {A : Option Addr} {xs : List Int} (h : w.ownsRow base e 1 (.slice A n c) n (nums k xs)) : Reads w k A n xs := by
  obtain ⟨A', c', hv, _, hr⟩ := own_reads h
  injection hv with h1 _ _
  rw [h1]; exact hr
theorem below_drewN {B : Nat} {a w : World} (h : Below B a w) (q : Nat) : Below B a (w.drewN q) := ⟨h.os, h.tape, h.output, h.size, h.block⟩
end Go.Proofs.YtmoakgkoahjijaaGreatDoor

/- What came in as an argument, opened: a value that can be read as data and lies within the form's reach. -/
set_option linter.unusedVariables false
set_option linter.unusedSimpArgs false
namespace Go.Proofs.YtmoakgkoahjijaaGreatDoor
open Go.RowKit Go.Deep Go.ChangeShapes Go.WideShapes

/-- The cells cs read as data of type t, and no list or text in it is beyond the reach. -/
def Came {H : Type} (enc : TypeId × Value → H) (P : Program) (w : World) (t : TypeId) (cs : List Value) : Prop :=
  ∃ (fuel : Nat) (d : DataW H) (pl : List MemPlace), DataW.trod enc P w 0 (fun _ => true) true fuel t cs = some (d, pl) ∧ ∀ n ∈ d.weights P t, n ≤ reachBytes

section
variable {H : Type} {enc : TypeId × Value → H} {P : Program} {w : World} {t e : TypeId} {cs : List Value}

theorem Came.int {k : IntKind} (ht : P.underlying t = some (.int k)) (h : Came enc P w t cs) : ∃ n, cs = [.int k n] ∧ (Lit.int k n).wf = true := by
  obtain ⟨fuel, d, pl, h, _⟩ := h
  obtain ⟨n, h1, _, h3⟩ := DataW.trod_int ht h
  exact ⟨n, h1, h3⟩
theorem Came.bool (ht : P.underlying t = some .bool) (h : Came enc P w t cs) : ∃ b, cs = [.bool b] := by
  obtain ⟨fuel, d, pl, h, _⟩ := h
  obtain ⟨b, h1, _⟩ := DataW.trod_bool ht h
  exact ⟨b, h1⟩
theorem Came.string (ht : P.underlying t = some .string) (h : Came enc P w t cs) : ∃ s : ByteArray, cs = [.string s] ∧ s.size ≤ 140737488351232 := by
  obtain ⟨fuel, d, pl, h, hw⟩ := h
  obtain ⟨s, h1, h2, _⟩ := DataW.trod_string ht h
  refine ⟨s, h1, ?_⟩
  injection h2 with h2 _
  subst h2
  have := hw s.data.toList.length (by simp [DataW.weights])
  rw [Array.length_toList] at this
  exact this
theorem Came.slice (ht : P.underlying t = some (.slice e)) (h : Came enc P w t cs) :
    ∃ A n c, cs = [.slice A n c] ∧ n ≤ c ∧ c ≤ maxLen ∧ n * P.bytesOf e ≤ 140737488351232 ∧ c * P.bytesOf e ≤ 140737488351232 ∧ (A = none → n = 0 ∧ c = 0) ∧
      (∀ ad, A = some ad → ∀ i, i < n → ∃ cs', w.cells? 0 (ad.add (i * P.cellsOf e)) (P.cellsOf e) = some cs' ∧ Came enc P w e cs') := by
  obtain ⟨fuel, d, pl, h, hw⟩ := h
  rcases open_slice ht h with ⟨rfl, hx⟩ | ⟨a, len, cap, m, n, D, Pl, rfl, _, hl, hm, hmm, hx, hel⟩
  · exact ⟨none, 0, 0, rfl, Nat.le_refl _, Nat.zero_le _, by simp, by simp, fun _ => ⟨rfl, rfl⟩, fun ad h => by cases h⟩
  · simp only [if_true] at hmm
    subst hmm
    injection hx with hx _
    subst hx
    have hall : ∀ (l : List (DataW H)) (x : DataW H), x ∈ l → ∀ n ∈ x.weights P e, n ∈ DataW.weightsAll P e l := by
      intro l
      induction l with
      | nil => intro x hx; cases hx
      | cons y l ih =>
        intro x hx n hn
        simp only [DataW.weightsAll, List.mem_append]
        cases hx with
        | head => exact .inl hn
        | tail _ hx => exact .inr (ih x hx n hn)
    have hcap : m * P.bytesOf e ≤ 140737488351232 := by
      have := hw (m * P.bytesOf e) (by simp only [DataW.weights, ht, List.length_map, List.length_range]; rw [show len + (m - len) = m by omega]; exact List.mem_cons_self)
      exact this
    refine ⟨some a, len, m, rfl, hl, hm, Nat.le_trans (Nat.mul_le_mul_right _ hl) hcap, hcap, (fun h => by cases h), ?_⟩
    rintro ad h i hi
    injection h with h
    subst h
    obtain ⟨cs', h1, h2⟩ := hel i (by omega)
    refine ⟨cs', h1, n, D i, Pl i, h2, fun q hq => ?_⟩
    refine hw q ?_
    simp only [DataW.weights, ht, List.mem_cons, List.mem_append]
    exact .inr (.inl (hall _ (D i) (List.mem_map.2 ⟨i, List.mem_range.2 hi, rfl⟩) q hq))
theorem Came.slice1 (ht : P.underlying t = some (.slice e)) (hc : P.cellsOf e = 1) (h : Came enc P w t cs) :
    ∃ A n c, cs = [.slice A n c] ∧ n ≤ c ∧ c ≤ maxLen ∧ n * P.bytesOf e ≤ 140737488351232 ∧ c * P.bytesOf e ≤ 140737488351232 ∧ (A = none → n = 0 ∧ c = 0) ∧
      (∀ ad, A = some ad → ∀ i, i < n → ∃ v, w.cell? (ad.add i) = some v ∧ Came enc P w e [v]) := by
  obtain ⟨A, n, c, h1, h2, h3, h4, h5, h6, h7⟩ := h.slice ht
  refine ⟨A, n, c, h1, h2, h3, h4, h5, h6, fun ad ha i hi => ?_⟩
  obtain ⟨cs', h8, h9⟩ := h7 ad ha i hi
  rw [hc, Nat.mul_one] at h8
  obtain ⟨_, hlen, _⟩ := World.cells?_some h8
  match cs', hlen with
  | [v], _ => exact ⟨v, cell_of_cells?_one h8, h9⟩
theorem Came.struct {fs : Array Field} (ht : P.underlying t = some (.struct fs)) (h : Came enc P w t cs) : cs.length = P.cellsOf t ∧ ∀ (i : Nat) (f : Field), fs[i]? = some f → Came enc P w f.type ((cs.drop f.offset).take (P.cellsOf f.type)) := by
  obtain ⟨fuel, d, pl, h, hw⟩ := h
  obtain ⟨xs, n, _, hx, hl, hlen, hf⟩ := DataW.trod_struct ht h
  injection hx with hx _
  subst hx
  refine ⟨hl, fun i f hi => ?_⟩
  have hlt : i < fs.size := (Array.getElem?_eq_some_iff.1 hi).1
  have hix : i < xs.length := by omega
  have h1 := hf i f hi
  rw [List.getElem?_eq_getElem hix] at h1
  refine ⟨n, xs[i].1, xs[i].2, h1, fun q hq => hw q ?_⟩
  simp only [DataW.weights, ht]
  have hty : (fs.toList.map (·.type))[i]? = some f.type := by simp [hi]
  exact DataW.weights_mem_each hty (by simp [List.getElem?_eq_getElem hix]) q hq
theorem Came.array {n : Nat} (ht : P.underlying t = some (.array n e)) (h : Came enc P w t cs) : cs.length = P.cellsOf t ∧ ∀ i, i < n → Came enc P w e ((cs.drop (i * P.cellsOf e)).take (P.cellsOf e)) := by
  obtain ⟨fuel, d, pl, h, hw⟩ := h
  obtain ⟨xs, m, _, hx, hl, hlen, hf⟩ := DataW.trod_array ht h
  injection hx with hx _
  subst hx
  refine ⟨hl, fun i hi => ?_⟩
  have hix : i < xs.length := by omega
  have h1 := hf i hi
  rw [List.getElem?_eq_getElem hix] at h1
  refine ⟨m, xs[i].1, xs[i].2, h1, fun q hq => hw q ?_⟩
  have hall : ∀ (l : List (DataW H)) (x : DataW H), x ∈ l → ∀ n ∈ x.weights P e, n ∈ DataW.weightsAll P e l := by
    intro l
    induction l with
    | nil => intro x hx; cases hx
    | cons y l ih =>
      intro x hx n hn
      simp only [DataW.weightsAll, List.mem_append]
      cases hx with
      | head => exact .inl hn
      | tail _ hx => exact .inr (ih x hx n hn)
  simp only [DataW.weights, ht]
  exact hall _ _ (List.mem_map.2 ⟨xs[i], List.getElem_mem hix, rfl⟩) q hq

theorem bd_u8 {n : Int} (h : (Lit.int .u8 n).wf = true) : 0 ≤ n ∧ n ≤ 255 := by simp only [Lit.wf, Bool.and_eq_true, decide_eq_true_eq] at h; exact h
theorem bd_u16 {n : Int} (h : (Lit.int .u16 n).wf = true) : 0 ≤ n ∧ n ≤ 65535 := by simp only [Lit.wf, Bool.and_eq_true, decide_eq_true_eq] at h; exact h
theorem bd_u32 {n : Int} (h : (Lit.int .u32 n).wf = true) : 0 ≤ n ∧ n ≤ 4294967295 := by simp only [Lit.wf, Bool.and_eq_true, decide_eq_true_eq] at h; exact h
theorem bd_u64 {n : Int} (h : (Lit.int .u64 n).wf = true) : 0 ≤ n ∧ n ≤ 18446744073709551615 := by simp only [Lit.wf, Bool.and_eq_true, decide_eq_true_eq] at h; exact h
theorem bd_i64 {n : Int} (h : (Lit.int .i64 n).wf = true) : -9223372036854775808 ≤ n ∧ n ≤ 9223372036854775807 := by simp only [Lit.wf, Bool.and_eq_true, decide_eq_true_eq] at h; exact h

/-- From 'for every i < n there is an x' to a list. -/
theorem list_of {α : Type} [Inhabited α] (z : α) (n : Nat) {p : Nat → α → Prop} (h : ∀ i, i < n → ∃ x, p i x) : ∃ xs : List α, xs.length = n ∧ ∀ i, i < n → p i (xs.getD i z) := by
  obtain ⟨f, hf⟩ := choose_lt h
  refine ⟨(List.range n).map f, by simp, fun i hi => ?_⟩
  simpa [List.getD_eq_getElem?_getD, hi] using hf i hi

/-- A slice of whole numbers. -/
theorem Came.ints {k : IntKind} (ht : P.underlying t = some (.slice e)) (he : P.underlying e = some (.int k)) (hc : P.cellsOf e = 1) (h : Came enc P w t cs) :
    ∃ A n c xs, cs = [.slice A n c] ∧ n ≤ c ∧ n * P.bytesOf e ≤ 140737488351232 ∧ c * P.bytesOf e ≤ 140737488351232 ∧ Reads w k A n xs ∧ ∀ j, j < n → (Lit.int k (xs.getD j 0)).wf = true := by
  obtain ⟨A, n, c, h1, h2, h3, h4, h5, h6, h7⟩ := h.slice1 ht hc
  cases A with
  | none =>
    obtain ⟨rfl, rfl⟩ := h6 rfl
    exact ⟨none, 0, 0, [], h1, h2, h4, h5, Reads.nil _ _, fun j hj => by omega⟩
  | some ad =>
    obtain ⟨xs, hl, hx⟩ := list_of (0 : Int) n (p := fun i x => w.cell? (ad.add i) = some (.int k x) ∧ (Lit.int k x).wf = true) (fun i hi => by
      obtain ⟨v, h8, h9⟩ := h7 ad rfl i hi
      obtain ⟨x, h10, h11⟩ := h9.int he
      injection h10 with h10 _
      exact ⟨x, by rw [h8, h10], h11⟩)
    unfold maxLen at h3
    exact ⟨some ad, n, c, xs, h1, h2, h4, h5, ⟨hl, by omega, fun _ => ⟨ad, rfl, fun j hj => (hx j hj).1⟩⟩, fun j hj => (hx j hj).2⟩

theorem Came.of_args {ts : List TypeId} {ds : List (DataW H)} {j : Nat} {d : DataW H} {v : Value} {pl : List MemPlace} (hsz : (DataW.weightsEach P ts ds).all (· ≤ reachBytes) = true) (ht : ts[j]? = some t) (hd : ds[j]? = some d)
    (h : DataW.Trod enc P w 0 (fun _ => true) true t v d pl) : Came enc P w t v.cells.toList := by
  obtain ⟨fuel, hf⟩ := h
  refine ⟨fuel, d, pl, hf, fun n hn => ?_⟩
  have := List.all_eq_true.1 hsz n (DataW.weights_mem_each ht hd n hn)
  simpa using this
end
end Go.Proofs.YtmoakgkoahjijaaGreatDoor

/- Bits of bytes and of numbers, in plain Lean: no program in sight. -/
set_option linter.unusedVariables false
set_option linter.unusedSimpArgs false
namespace Go.Proofs.YtmoakgkoahjijaaGreatDoor.PkMath

/-- The number that bits tell, the highest one first. -/
def numOf (l : List Bool) : Nat := l.foldl (fun v b => 2 * v + b.toNat) 0
theorem numOf_from (l : List Bool) : ∀ a, l.foldl (fun v b => 2 * v + b.toNat) a = a * 2 ^ l.length + numOf l := by
  induction l with
  | nil => intro a; simp [numOf]
  | cons b l ih =>
    intro a
    have e : numOf (b :: l) = b.toNat * 2 ^ l.length + numOf l := by
      unfold numOf
      rw [List.foldl_cons, ih]
      simp [numOf]
    rw [List.foldl_cons, ih, e, List.length_cons, Nat.pow_succ, Nat.add_mul, Nat.mul_assoc 2 a, Nat.mul_comm 2 (a * _), Nat.mul_assoc a, Nat.add_assoc]
theorem numOf_nil : numOf [] = 0 := rfl
theorem numOf_append (l m : List Bool) : numOf (l ++ m) = numOf l * 2 ^ m.length + numOf m := by
  show (l ++ m).foldl _ 0 = _
  rw [List.foldl_append]
  exact numOf_from m _
theorem numOf_lt (l : List Bool) : numOf l < 2 ^ l.length := by
  induction l with
  | nil => decide
  | cons b l ih =>
    have := numOf_append [b] l
    rw [List.singleton_append] at this
    rw [this, List.length_cons, Nat.pow_succ]
    have hb : numOf [b] ≤ 1 := by cases b <;> decide
    have : numOf [b] * 2 ^ l.length ≤ 1 * 2 ^ l.length := Nat.mul_le_mul_right _ hb
    omega
/-- The w bits of a number, the highest one first. -/
def bitsOfNum (w v : Nat) : List Bool := (List.range w).map fun i => v.testBit (w - 1 - i)
theorem bitsOfNum_length (w v : Nat) : (bitsOfNum w v).length = w := by simp [bitsOfNum]
theorem bitsOfNum_zero (v : Nat) : bitsOfNum 0 v = [] := rfl
theorem bitsOfNum_succ (w v : Nat) : bitsOfNum (w + 1) v = bitsOfNum w (v / 2) ++ [v.testBit 0] := by
  unfold bitsOfNum
  rw [List.range_succ, List.map_append]
  congr 1
  · apply List.map_congr_left
    intro i hi
    have := List.mem_range.1 hi
    rw [← Nat.testBit_succ]
    congr 1
    omega
  · simp
theorem bitsOfNum_cons (w v : Nat) : bitsOfNum (w + 1) v = v.testBit w :: bitsOfNum w v := by
  unfold bitsOfNum
  rw [List.range_succ_eq_map, List.map_cons, List.map_map]
  congr 1
  apply List.map_congr_left
  intro i hi
  show v.testBit (w + 1 - 1 - (i + 1)) = v.testBit (w - 1 - i)
  congr 1
  omega
theorem numOf_bits (w : Nat) : ∀ v, numOf (bitsOfNum w v) = v % 2 ^ w := by
  induction w with
  | zero => intro v; rw [bitsOfNum_zero]; simp [numOf, Nat.mod_one]
  | succ w ih =>
    intro v
    rw [bitsOfNum_succ, numOf_append, ih]
    have hb : numOf [v.testBit 0] = v % 2 := by
      rw [Nat.testBit_zero]
      by_cases h : v % 2 = 1
      · rw [h]; decide
      · have : v % 2 = 0 := by omega
        rw [this]; decide
    rw [hb]
    show v / 2 % 2 ^ w * 2 ^ 1 + v % 2 = v % 2 ^ (w + 1)
    rw [show (2 : Nat) ^ (w + 1) = 2 * 2 ^ w by rw [Nat.pow_succ, Nat.mul_comm], Nat.mod_mul, show (2 : Nat) ^ 1 = 2 from rfl]
    omega
theorem numOf_bits_lt (w v : Nat) (h : v < 2 ^ w) : numOf (bitsOfNum w v) = v := by rw [numOf_bits, Nat.mod_eq_of_lt h]
theorem numOf_cons (b : Bool) (l : List Bool) : numOf (b :: l) = 2 ^ l.length * b.toNat + numOf l := by
  have := numOf_append [b] l
  rw [List.singleton_append] at this
  rw [this, Nat.mul_comm]
  cases b <;> rfl
theorem bitsOfNum_getD (w v i : Nat) (h : i < w) : (bitsOfNum w v).getD i false = v.testBit (w - 1 - i) := by
  unfold bitsOfNum
  rw [List.getD_eq_getElem?_getD, List.getElem?_map, List.getElem?_range h]
  rfl
theorem bits_numOf : ∀ (l : List Bool), bitsOfNum l.length (numOf l) = l := by
  intro l
  induction l with
  | nil => rfl
  | cons b l ih =>
    have hN := numOf_lt l
    rw [List.length_cons, bitsOfNum_cons, numOf_cons]
    congr 1
    · rw [Nat.testBit_two_pow_mul_add _ hN, if_neg (by omega), Nat.sub_self]
      cases b <;> rfl
    · conv => rhs; rw [← ih]
      unfold bitsOfNum
      apply List.map_congr_left
      intro i hi
      have hi := List.mem_range.1 hi
      rw [Nat.testBit_two_pow_mul_add _ hN, if_pos (by omega)]

/-- The bits of bytes. -/
def byteBits (x : Int) : List Bool := bitsOfNum 8 x.toNat
def bitsL (zs : List Int) : List Bool := zs.flatMap byteBits
theorem byteBits_length (x : Int) : (byteBits x).length = 8 := bitsOfNum_length 8 _
theorem bitsL_length (zs : List Int) : (bitsL zs).length = 8 * zs.length := by
  induction zs with
  | nil => rfl
  | cons x zs ih => unfold bitsL at *; rw [List.flatMap_cons, List.length_append, ih, byteBits_length, List.length_cons]; omega
theorem bitsL_getD (zs : List Int) : ∀ q, (bitsL zs).getD q false = if q < 8 * zs.length then (zs.getD (q / 8) 0).toNat.testBit (7 - q % 8) else false := by
  induction zs with
  | nil => intro q; simp [bitsL]
  | cons x zs ih =>
    intro q
    unfold bitsL at *
    rw [List.flatMap_cons, List.getD_eq_getElem?_getD]
    by_cases hq : q < 8
    · rw [List.getElem?_append_left (by rw [byteBits_length]; exact hq), if_pos (by simp; omega)]
      have e1 : q / 8 = 0 := by omega
      have e2 : q % 8 = q := by omega
      rw [e1, e2]
      unfold byteBits bitsOfNum
      rw [List.getElem?_map, List.getElem?_range hq]
      show x.toNat.testBit (8 - 1 - q) = _
      simp
    · rw [List.getElem?_append_right (by rw [byteBits_length]; omega), byteBits_length, ← List.getD_eq_getElem?_getD, ih (q - 8)]
      have e1 : q / 8 = (q - 8) / 8 + 1 := by omega
      have e2 : q % 8 = (q - 8) % 8 := by omega
      by_cases h1 : q - 8 < 8 * zs.length
      · rw [if_pos h1, if_pos (by simp; omega), e1, e2, List.getD_cons_succ]
      · rw [if_neg h1, if_neg (by simp; omega)]

/-- A window of bits. -/
def win (l : List Bool) (at_ w : Nat) : List Bool := (l.drop at_).take w
theorem win_length (l : List Bool) (at_ w : Nat) (h : at_ + w ≤ l.length) : (win l at_ w).length = w := by unfold win; simp; omega
theorem win_add (l : List Bool) (at_ a k : Nat) : win l at_ (a + k) = win l at_ a ++ win l (at_ + a) k := by
  unfold win
  rw [List.take_add, List.drop_drop]
theorem win_getD (l : List Bool) (at_ w i : Nat) (h : i < w) : (win l at_ w).getD i false = l.getD (at_ + i) false := by
  unfold win
  rw [List.getD_eq_getElem?_getD, List.getElem?_take, if_pos h, List.getElem?_drop, List.getD_eq_getElem?_getD]
theorem list_ext_getD {l m : List Bool} (hl : l.length = m.length) (h : ∀ i, i < l.length → l.getD i false = m.getD i false) : l = m := by
  apply List.ext_getElem hl
  intro i h1 h2
  have := h i h1
  rw [List.getD_eq_getElem?_getD, List.getD_eq_getElem?_getD, List.getElem?_eq_getElem h1, List.getElem?_eq_getElem h2] at this
  exact this
/-- Bits within one byte. -/
theorem win_byte (zs : List Int) (at_ k : Nat) (hk : at_ % 8 + k ≤ 8) (hat : at_ + k ≤ 8 * zs.length) (hk0 : 0 < k) : win (bitsL zs) at_ k = bitsOfNum k ((zs.getD (at_ / 8) 0).toNat / 2 ^ (8 - at_ % 8 - k)) := by
  apply list_ext_getD
  · rw [win_length _ _ _ (by rw [bitsL_length]; exact hat), bitsOfNum_length]
  · intro i hi
    rw [win_length _ _ _ (by rw [bitsL_length]; exact hat)] at hi
    rw [win_getD _ _ _ _ hi, bitsL_getD, if_pos (by omega)]
    rw [bitsOfNum_getD _ _ _ hi, Nat.testBit_div_two_pow]
    have e1 : (at_ + i) / 8 = at_ / 8 := by omega
    have e2 : 7 - (at_ + i) % 8 = k - 1 - i + (8 - at_ % 8 - k) := by omega
    rw [e1, e2]
theorem numOf_win_byte (zs : List Int) (at_ k : Nat) (hk : at_ % 8 + k ≤ 8) (hat : at_ + k ≤ 8 * zs.length) (hk0 : 0 < k) : numOf (win (bitsL zs) at_ k) = (zs.getD (at_ / 8) 0).toNat / 2 ^ (8 - at_ % 8 - k) % 2 ^ k := by
  rw [win_byte zs at_ k hk hat hk0, numOf_bits]

/-- Bits, packed as bytes. -/
def byteAt (l : List Bool) (j : Nat) : List Bool := (List.range 8).map fun r => l.getD (8 * j + r) false
theorem byteAt_length (l : List Bool) (j : Nat) : (byteAt l j).length = 8 := by simp [byteAt]
theorem byteAt_getD (l : List Bool) (j r : Nat) (h : r < 8) : (byteAt l j).getD r false = l.getD (8 * j + r) false := by
  unfold byteAt
  rw [List.getD_eq_getElem?_getD, List.getElem?_map, List.getElem?_range h]
  rfl
def packByte (l : List Bool) (j : Nat) : Nat := numOf (byteAt l j)
def pack (l : List Bool) (m : Nat) : List Int := (List.range m).map fun j => (packByte l j : Int)
theorem pack_length (l : List Bool) (m : Nat) : (pack l m).length = m := by simp [pack]
theorem pack_getD (l : List Bool) (m j : Nat) (h : j < m) : (pack l m).getD j 0 = (packByte l j : Int) := by
  unfold pack
  rw [List.getD_eq_getElem?_getD, List.getElem?_map, List.getElem?_range h]
  rfl
theorem packByte_lt (l : List Bool) (j : Nat) : packByte l j < 256 := by
  have h := numOf_lt (byteAt l j)
  rw [byteAt_length] at h
  exact h
theorem packByte_bits (l : List Bool) (j : Nat) : bitsOfNum 8 (packByte l j) = byteAt l j := by
  have h := bits_numOf (byteAt l j)
  rw [byteAt_length] at h
  exact h
theorem packByte_test (l : List Bool) (j r : Nat) (h : r < 8) : (packByte l j).testBit (7 - r) = l.getD (8 * j + r) false := by
  rw [← byteAt_getD l j r h, ← packByte_bits, bitsOfNum_getD _ _ _ h]
theorem bitsL_pack (l : List Bool) (m q : Nat) (hm : l.length ≤ 8 * m) : (bitsL (pack l m)).getD q false = l.getD q false := by
  rw [bitsL_getD, pack_length]
  by_cases hq : q < 8 * m
  · rw [if_pos hq, pack_getD _ _ _ (by omega), Int.toNat_natCast, packByte_test _ _ _ (by omega)]
    congr 1
    omega
  · rw [if_neg hq, List.getD_eq_getElem?_getD, List.getElem?_eq_none (by omega)]
    rfl
theorem pack_bitsL (zs : List Int) (h : ∀ j, 0 ≤ zs.getD j 0 ∧ zs.getD j 0 ≤ 255) : pack (bitsL zs) zs.length = zs := by
  apply List.ext_getElem (by rw [pack_length])
  intro j h1 h2
  have e : (pack (bitsL zs) zs.length).getD j 0 = zs.getD j 0 := by
    rw [pack_getD _ _ _ h2]
    have hx := h j
    have hb : packByte (bitsL zs) j = (zs.getD j 0).toNat := by
      have key : byteAt (bitsL zs) j = bitsOfNum 8 (zs.getD j 0).toNat := by
        apply list_ext_getD (by rw [byteAt_length, bitsOfNum_length])
        intro r hr
        rw [byteAt_length] at hr
        rw [byteAt_getD _ _ _ hr, bitsOfNum_getD _ _ _ hr, bitsL_getD, if_pos (by omega), show (8 * j + r) / 8 = j by omega, show (8 * j + r) % 8 = r by omega]
      unfold packByte
      rw [key, numOf_bits, Nat.mod_eq_of_lt (by omega)]
    rw [hb]
    omega
  rw [List.getD_eq_getElem?_getD, List.getD_eq_getElem?_getD, List.getElem?_eq_getElem h1, List.getElem?_eq_getElem h2] at e
  exact e
theorem getD_snoc (l : List Bool) (b : Bool) (q : Nat) : (l ++ [b]).getD q false = if q = l.length then b else l.getD q false := by
  rw [List.getD_eq_getElem?_getD]
  by_cases h1 : q < l.length
  · rw [List.getElem?_append_left h1, if_neg (by omega), List.getD_eq_getElem?_getD]
  · rw [List.getElem?_append_right (by omega)]
    by_cases h2 : q = l.length
    · rw [if_pos h2, h2]; simp
    · rw [if_neg h2, List.getD_eq_getElem?_getD, List.getElem?_eq_none (by omega : l.length ≤ q), List.getElem?_eq_none (by simp; omega)]
theorem getD_past (l : List Bool) (q : Nat) (h : l.length ≤ q) : l.getD q false = false := by
  rw [List.getD_eq_getElem?_getD, List.getElem?_eq_none h]; rfl
/-- A nought is nothing more. -/
theorem packByte_false (l : List Bool) (j : Nat) : packByte (l ++ [false]) j = packByte l j := by
  unfold packByte
  congr 1
  apply list_ext_getD (by rw [byteAt_length, byteAt_length])
  intro r hr
  rw [byteAt_length] at hr
  rw [byteAt_getD _ _ _ hr, byteAt_getD _ _ _ hr, getD_snoc]
  split
  · rename_i h; rw [h, getD_past _ _ (Nat.le_refl _)]
  · rfl
/-- A byte that the next bit is not in stays. -/
theorem packByte_other (l : List Bool) (b : Bool) (j : Nat) (hj : j ≠ l.length / 8) : packByte (l ++ [b]) j = packByte l j := by
  unfold packByte
  congr 1
  apply list_ext_getD (by rw [byteAt_length, byteAt_length])
  intro r hr
  rw [byteAt_length] at hr
  rw [byteAt_getD _ _ _ hr, byteAt_getD _ _ _ hr, getD_snoc, if_neg (by omega)]
/-- The byte that the next bit is in: the bit is or'ed to it. -/
theorem packByte_or (l : List Bool) : packByte (l ++ [true]) (l.length / 8) = packByte l (l.length / 8) ||| 2 ^ (7 - l.length % 8) := by
  apply Nat.eq_of_testBit_eq
  intro i
  rw [Nat.testBit_or, Nat.testBit_two_pow]
  by_cases hi : i < 8
  · have e : i = 7 - (7 - i) := by omega
    rw [e, packByte_test _ _ _ (by omega), packByte_test _ _ _ (by omega), getD_snoc]
    split
    · rename_i h
      rw [getD_past _ _ (by omega), decide_eq_true (by omega)]; rfl
    · rename_i h
      rw [decide_eq_false (by omega), Bool.or_false]
  · have h8 : 256 ≤ 2 ^ i := Nat.pow_le_pow_right (n := 2) (i := 8) (by decide) (by omega)
    have h1 : packByte (l ++ [true]) (l.length / 8) < 2 ^ i := Nat.lt_of_lt_of_le (packByte_lt _ _) h8
    have h2 : packByte l (l.length / 8) < 2 ^ i := Nat.lt_of_lt_of_le (packByte_lt _ _) h8
    rw [Nat.testBit_lt_two_pow h1, Nat.testBit_lt_two_pow h2, decide_eq_false (by omega)]
    rfl
end Go.Proofs.YtmoakgkoahjijaaGreatDoor.PkMath

/- The contracts of package bits: wide, cut, Of. -/
set_option linter.unusedVariables false
set_option linter.unusedSimpArgs false
namespace Go.Proofs.YtmoakgkoahjijaaGreatDoor
open Go.RowKit

theorem wide_any (x : Int) (w : World) : Calls Tryz.prog 142 #[.int .i64 x] w fun e w' => e = .returned (.bool (decide (1 ≤ x ∧ x ≤ 128))) ∧ w = w' := by
  by_cases h1 : 1 ≤ x
  · by_cases h2 : x ≤ 128
    · rw [decide_eq_true ⟨h1, h2⟩]
      go_enter Tryz.func142, Tryz.ntmps142
      go_wp2
      go_ret
      exact ⟨rfl, rfl⟩
    · rw [decide_eq_false (fun h => h2 h.2)]
      go_enter Tryz.func142, Tryz.ntmps142
      go_wp2
      go_ret
      exact ⟨rfl, rfl⟩
  · rw [decide_eq_false (fun h => h1 h.1)]
    go_enter Tryz.func142, Tryz.ntmps142
    go_wp2
    go_ret
    exact ⟨rfl, rfl⟩

/-- A number of w bits, as Go's struct. -/
def bitsV (w hi lo : Int) : Value := .agg #[.int .i64 w, .int .u64 hi, .int .u64 lo]
/-- What is above w bits is cut off. -/
def cutHi (w : Nat) (hi : Int) : Int := if w < 64 then 0 else hi % (2 ^ (w - 64))
def cutLo (w : Nat) (lo : Int) : Int := if w < 64 then lo % (2 ^ w) else lo
theorem wraps_u64 (n : Int) (h₀ : 0 ≤ n) (h₁ : n < 2 ^ 64) : IntKind.u64.wrap n = n := by rw [IntKind.wrap_u64]; omega
theorem and_ones (i : Nat) (hi : i ≤ 64) (x : Int) (h0 : 0 ≤ x) (h1 : x ≤ 18446744073709551615) : bits .and .u64 x (IntKind.u64.wrap (IntKind.u64.wrap (2 ^ i) - 1)) = x % 2 ^ i := by
  have hp : (2:Int) ^ i = ((2 ^ i : Nat) : Int) := by simp
  have hpos : 0 < 2 ^ i := Nat.two_pow_pos i
  have e : IntKind.u64.wrap (IntKind.u64.wrap (2 ^ i) - 1) = 2 ^ i - 1 := by
    have hle : 2 ^ i ≤ 2 ^ 64 := Nat.pow_le_pow_right (by decide) hi
    rw [IntKind.wrap_u64, IntKind.wrap_u64, hp]
    omega
  rw [e]
  exact bits_mask .u64 64 (by decide) wraps_u64 i hi x h0 (by omega)

theorem cut_any (w : Nat) (hi lo : Int) (W : World) (h1 : 1 ≤ w) (h2 : w ≤ 128) (h3 : 0 ≤ hi ∧ hi ≤ 18446744073709551615) (h4 : 0 ≤ lo ∧ lo ≤ 18446744073709551615) :
    Calls Tryz.prog 143 #[.int .i64 (w : Int), .int .u64 hi, .int .u64 lo] W fun e W' => e = .returned (bitsV w (cutHi w hi) (cutLo w lo)) ∧ Below W.heap.size W W' := by
  have H3 : Aside (0 ≤ hi ∧ hi ≤ 18446744073709551615) := h3
  have H4 : Aside (0 ≤ lo ∧ lo ≤ 18446744073709551615) := h4
  clear h3 h4
  go_enter Tryz.func143, Tryz.ntmps143
  by_cases h : w < 64
  · go_wp2
    refine bodyPost_ret (results_cell_row rfl _ _ W.heap.size 79 _ (0,0) _ rfl (heap_alloc_new ..) Tryz.underlying79 rfl (by kernel_rfl)) rfl ⟨?_, (Below.refl _ _).alloc (Nat.le_refl _) _⟩
    rw [bitsV, cutHi, if_pos h, cutLo, if_pos h, ← and_ones w (by omega) lo H4.out.1 H4.out.2]
  · go_wp2
    refine bodyPost_ret (results_cell_row rfl _ _ W.heap.size 79 _ (0,0) _ rfl (heap_alloc_new ..) Tryz.underlying79 rfl (by kernel_rfl)) rfl ⟨?_, (Below.refl _ _).alloc (Nat.le_refl _) _⟩
    rw [bitsV, cutHi, if_neg h, cutLo, if_neg h, ← and_ones (w - 64) (by omega) hi H3.out.1 H3.out.2]
theorem of_any (w : Nat) (hi lo : Int) (W : World) (h1 : 1 ≤ w) (h2 : w ≤ 128) (h3 : 0 ≤ hi ∧ hi ≤ 18446744073709551615) (h4 : 0 ≤ lo ∧ lo ≤ 18446744073709551615) :
    Calls Tryz.prog 137 #[.int .i64 (w : Int), .int .u64 hi, .int .u64 lo] W fun e W' => e = .returned (.tuple #[bitsV w (cutHi w hi) (cutLo w lo), .int .i64 0]) ∧ Below W.heap.size W W' := by
  have H3 : Aside (0 ≤ hi ∧ hi ≤ 18446744073709551615) := h3
  have H4 : Aside (0 ≤ lo ∧ lo ≤ 18446744073709551615) := h4
  clear h3 h4
  generalize hA : cutHi w hi = a at *
  generalize hB : cutLo w lo = b at *
  have HA : Aside (cutHi w hi = a ∧ cutLo w lo = b) := ⟨hA, hB⟩
  clear hA hB
  have hd : decide (1 ≤ (w:Int) ∧ (w:Int) ≤ 128) = true := decide_eq_true ⟨by omega, by omega⟩
  have h0 := heap_alloc_new W (.cells #[.int .i64 0, .int .u64 0, .int .u64 0] 79 (0,0))
  have hB0 := (Below.refl W.heap.size W).alloc (Nat.le_refl _) (.cells #[.int .i64 0, .int .u64 0, .int .u64 0] 79 (0,0))
  go_enter Tryz.func137, Tryz.ntmps137
  go_wp2_with fail
  refine (wide_any _ _).mono ?_
  rintro e w' ⟨rfl, rfl⟩
  rw [hd]
  go_wp2_with fail
  refine (cut_any w hi lo _ h1 h2 H3.out H4.out).mono ?_
  rintro e w' ⟨rfl, hB1⟩
  rw [HA.out.1, HA.out.2]
  unfold bitsV
  have h5 := (hB1.block W.heap.size (by simp)).trans h0
  have c0 := cellOf h5 0
  have c1 := cellOf h5 1
  have c2 := cellOf h5 2
  have f0 := frozenOf h5 0
  have f1 := frozenOf h5 1
  have f2 := frozenOf h5 2
  clear h0
  simp only [List.getElem?_toArray, List.getElem?_cons_zero, List.getElem?_cons_succ] at c0 c1 c2
  go_wp2
  refine bodyPost_ret (results_row_tmp rfl _ _ W.heap.size 79 _ (0,0) _ rfl (set3 h5 _ _ _) Tryz.underlying79 rfl (by kernel_rfl)) rfl ⟨rfl, ?_⟩
  have hB2 : Below W.heap.size W w' := hB0.trans (hB1.mono (by simp))
  exact ((hB2.setCell (p := ⟨_, _, _⟩) (Nat.le_refl _) _).setCell (p := ⟨_, _, _⟩) (Nat.le_refl _) _).setCell (p := ⟨_, _, _⟩) (Nat.le_refl _) _

theorem of_bad (w hi lo : Int) (W : World) (h : w < 1 ∨ 128 < w) :
    Calls Tryz.prog 137 #[.int .i64 w, .int .u64 hi, .int .u64 lo] W fun e W' => e = .returned (.tuple #[bitsV 0 0 0, .int .i64 1]) ∧ Below W.heap.size W W' := by
  have hd : decide (1 ≤ w ∧ w ≤ 128) = false := decide_eq_false (by omega)
  have hB := (Below.refl W.heap.size W).alloc (Nat.le_refl _) (.cells #[.int .i64 0, .int .u64 0, .int .u64 0] 79 (0,0))
  go_enter Tryz.func137, Tryz.ntmps137
  go_wp2_with fail
  refine (wide_any _ _).mono ?_
  rintro e w' ⟨rfl, rfl⟩
  rw [hd]
  go_wp2
  exact bodyPost_ret (results_row_tmp rfl _ _ W.heap.size 79 _ (0,0) _ rfl (heap_alloc_new ..) Tryz.underlying79 rfl (by kernel_rfl)) rfl ⟨rfl, hB⟩
end Go.Proofs.YtmoakgkoahjijaaGreatDoor

/- The cursor: New, gone, left, At, Left, Rest. -/
set_option linter.unusedVariables false
set_option linter.unusedSimpArgs false
namespace Go.Proofs.YtmoakgkoahjijaaGreatDoor
open Go.RowKit PkMath

theorem infoByte : (Tryz.prog.info? 5).map (fun i => (i.zero, i.size, i.bytes)) = some (some (.int .u8 0), 1, 1) := by kernel_rfl

/-- A cursor: its block, its bytes (memory of its own), how many bits were taken. -/
def CurAt (base top : Nat) (w : World) (g : Nat) (zs : List Int) (at_ : Nat) : Prop :=
  base ≤ g ∧ zs.length ≤ 65536 ∧ at_ ≤ 8 * zs.length ∧ ∃ A c, w.heap[g]? = some (.cells #[.slice A zs.length c, .int .i64 at_, .bool true] 76 (0, 0)) ∧ w.ownsRow base 5 1 (.slice A zs.length c) zs.length (nums .u8 zs) ∧ (∀ ad, A = some ad → ad.block ≠ g ∧ ad.block < top)
theorem CurAt.lt {base top : Nat} {w : World} {g : Nat} {zs : List Int} {at_ : Nat} (h : CurAt base top w g zs at_) : g < w.heap.size := by
  obtain ⟨_, _, _, A, c, hb, _⟩ := h
  exact (Array.getElem?_eq_some_iff.1 hb).1
theorem CurAt.below {base top : Nat} {w w' : World} {g : Nat} {zs : List Int} {at_ : Nat} (h : CurAt base top w g zs at_) (hb : Below w.heap.size w w') : CurAt base top w' g zs at_ := by
  obtain ⟨h1, h2, h3, A, c, h4, h5, h6⟩ := h
  exact ⟨h1, h2, h3, A, c, (hb.block g (Array.getElem?_eq_some_iff.1 h4).1).trans h4, own_keep h5 hb, h6⟩

theorem New_any (A : Option Addr) (n c : Nat) (zs : List Int) (w : World) (hR : Reads w .u8 A n zs) (hn : n ≤ 65536) :
    Calls Tryz.prog 14 #[.slice A n c] w fun e w' => ∃ g, e = .returned (.tuple #[.pointer (some ⟨g, 0, none⟩), .int .i64 0]) ∧ CurAt w.heap.size w'.heap.size w' g zs 0 ∧ Below w.heap.size w w' := by
  have HR : Aside (Reads w .u8 A n zs) := hR
  have HO : Aside (w.ownsRow w.heap.size 5 1 (.slice none 0 0) ([] : List Int).length (nums .u8 [])) := World.ownsRow_nil _ _ _ _
  clear hR
  go_enter Tryz.func14, Tryz.ntmps14
  go_wp2_with (
    at_builtin
    refine append_row w.heap.size rfl _ _ 24 5 .u8 1 rfl Tryz.underlying24 infoByte (by omega) (.slice none 0 0) [] zs A n c rfl rfl HO.out HR.out (Nat.le_refl _) (by simp; omega) ?_
    intro v1 w1 hown hg hat
    have hzl : ([] ++ zs : List Int).length = n := by simpa using HR.out.1
    rw [hzl, List.nil_append] at hown
    obtain ⟨A1, L1, c1, rfl, HL1⟩ := own_form hown
    have hB : Below w.heap.size w w1 := own_grown HO.out hg (Nat.le_refl _))
  go_ret2
  have hlen : zs.length = n := HR.out.1
  subst hlen
  obtain rfl : L1 = zs.length := HL1.out
  refine ⟨w1.heap.size, rfl, ⟨hB.size, hn, Nat.zero_le _, A1, c1, heap_alloc_new _ _, hown.alloc _, ?_⟩, hB.alloc hB.size _⟩
  intro ad had
  have := (hown.lt ad.block (by rw [had]; rfl)).2
  refine ⟨by omega, ?_⟩
  rw [World.size_alloc]
  omega
theorem New_big (A : Option Addr) (n c : Nat) (w : World) (hn : 65536 < n) (hm : n ≤ 9223372036854775807) :
    Calls Tryz.prog 14 #[.slice A n c] w fun e w' => e = .returned (.tuple #[.pointer none, .int .i64 3]) ∧ w = w' := by
  go_enter Tryz.func14, Tryz.ntmps14
  go_wp2
  go_ret2
  exact ⟨rfl, rfl⟩

section
variable {base top : Nat} {w : World} {g : Nat} {zs : List Int} {at_ : Nat}
theorem eql_ptr (a : Addr) (w : World) : (binOp .eql 67 (.pointer (some a)) (.pointer none)).run Tryz.prog w = .ok (.bool false) w := by kernel_rfl
theorem gone_any (h : CurAt base top w g zs at_) : Calls Tryz.prog 135 #[.pointer (some ⟨g, 0, none⟩)] w fun e w' => e = .returned (.bool false) ∧ w = w' := by
  obtain ⟨_, _, _, A, c, hb, _⟩ := h
  have c2 : w.cell? ⟨g, 2, none⟩ = some (.bool true) := cellOf hb 2
  clear hb
  go_enter Tryz.func135, Tryz.ntmps135
  go_wp2
  go_ret
  exact ⟨rfl, rfl⟩
theorem left1_any (h : CurAt base top w g zs at_) : Calls Tryz.prog 136 #[.pointer (some ⟨g, 0, none⟩)] w fun e w' => e = .returned (.int .i64 (8 * (zs.length : Int) - at_)) ∧ ∃ q, w' = w.drewN q := by
  obtain ⟨_, h1, h2, A, c, hb, _⟩ := h
  have c0 : w.cell? ⟨g, 0, none⟩ = some (.slice A zs.length c) := cellOf hb 0
  have c1 : w.cell? ⟨g, 1, none⟩ = some (.int .i64 at_) := cellOf hb 1
  generalize zs.length = n at *
  clear hb
  have s1 : IntKind.i64.wrap (8 * (n : Int)) = 8 * (n : Int) := by rw [IntKind.wrap_i64]; omega
  have s2 : IntKind.i64.wrap (8 * (n : Int) - (at_ : Int)) = 8 * (n : Int) - (at_ : Int) := by rw [IntKind.wrap_i64]; omega
  go_enter Tryz.func136, Tryz.ntmps136
  go_wp2_with fail
  go_quiet (fail)
  go_wp2
  go_ret
  exact ⟨rfl, _, rfl⟩
theorem At_any (h : CurAt base top w g zs at_) : Calls Tryz.prog 21 #[.pointer (some ⟨g, 0, none⟩)] w fun e w' => e = .returned (.int .i64 at_) ∧ w = w' := by
  have H : Aside (CurAt base top w g zs at_) := h
  obtain ⟨_, h1, h2, A, c, hb, _⟩ := h
  have c1 : w.cell? ⟨g, 1, none⟩ = some (.int .i64 at_) := cellOf hb 1
  clear hb
  go_enter Tryz.func21, Tryz.ntmps21
  go_wp2_with fail
  refine (gone_any H.out).mono ?_
  rintro e w' ⟨rfl, rfl⟩
  go_wp2
  go_ret
  exact ⟨rfl, rfl⟩
theorem Left_any (h : CurAt base top w g zs at_) : Calls Tryz.prog 19 #[.pointer (some ⟨g, 0, none⟩)] w fun e w' => e = .returned (.int .i64 (8 * (zs.length : Int) - at_)) ∧ ∃ q, w' = w.drewN q := by
  have H : Aside (CurAt base top w g zs at_) := h
  clear h
  go_enter Tryz.func19, Tryz.ntmps19
  go_wp2_with fail
  refine (gone_any H.out).mono ?_
  rintro e w' ⟨rfl, rfl⟩
  go_wp2_with fail
  refine (left1_any H.out).mono ?_
  rintro e w' ⟨rfl, q, rfl⟩
  go_wp2
  go_ret
  exact ⟨rfl, _, rfl⟩
end
end Go.Proofs.YtmoakgkoahjijaaGreatDoor

/- The cursor's rest. -/
set_option linter.unusedVariables false
set_option linter.unusedSimpArgs false
namespace Go.Proofs.YtmoakgkoahjijaaGreatDoor
open Go.RowKit PkMath

theorem Reads.drop_ {w : World} {k : IntKind} {b off n : Nat} {xs : List Int} (h : Reads w k (some ⟨b, off, none⟩) n xs) (r : Nat) (hr : r ≤ n) : Reads w k (some ⟨b, off + r, none⟩) (n - r) (xs.drop r) := by
  refine ⟨by rw [List.length_drop, h.1], by have := h.2.1; omega, fun hn => ⟨_, rfl, fun j hj => ?_⟩⟩
  obtain ⟨b', off', e, _, hc⟩ := h.plain (by omega)
  injection e with e
  injection e with e1 e2
  subst e1 e2
  have := hc (r + j) (by omega)
  rw [Addr.add_lit, Nat.add_assoc, this, List.getD_eq_getElem?_getD, List.getD_eq_getElem?_getD, List.getElem?_drop]

set_option maxHeartbeats 1600000 in
set_option maxRecDepth 100000 in
theorem Rest_any {base top : Nat} {w : World} {g : Nat} {zs : List Int} {at_ : Nat} (h : CurAt base top w g zs at_) :
    Calls Tryz.prog 23 #[.pointer (some ⟨g, 0, none⟩)] w fun e w' => ∃ v, e = .returned v ∧ w'.ownsRow w.heap.size 5 1 v (zs.length - (at_ + 7) / 8) (nums .u8 (zs.drop ((at_ + 7) / 8))) ∧ Below w.heap.size w w' := by
  have H : Aside (CurAt base top w g zs at_) := h
  obtain ⟨_, h1, h2, A, c, hb, hown, _⟩ := h
  have c0 : w.cell? ⟨g, 0, none⟩ = some (.slice A zs.length c) := cellOf hb 0
  have c1 : w.cell? ⟨g, 1, none⟩ = some (.int .i64 at_) := cellOf hb 1
  clear hb
  have HRD : Aside (Reads w .u8 A zs.length zs) := own_rd' hown
  have HO : Aside (w.drew.ownsRow w.heap.size 5 1 (.slice none 0 0) ([] : List Int).length (nums .u8 [])) := World.ownsRow_nil _ _ _ _
  obtain ⟨r, hr⟩ : ∃ r, r = (at_ + 7) / 8 := ⟨_, rfl⟩
  have hrn : r ≤ zs.length := by omega
  have s1 : IntKind.i64.wrap ((at_ : Int) + 7) = (at_ : Int) + 7 := by rw [IntKind.wrap_i64]; omega
  have s2 : ((at_ : Int) + 7) / 8 = (r : Int) := by omega
  have s3 : ((at_ : Int) + 7).tdiv 8 = (r : Int) := by rw [Int.tdiv_eq_ediv_of_nonneg (by omega)]; exact s2
  have s4 : (0 : Int) ≤ (r : Int) := by omega
  have s7 : IntKind.i64.wrap (r : Int) = (r : Int) := by rw [IntKind.wrap_i64]; omega
  have hglt := H.out.lt
  have s5 : (r : Int) ≤ (zs.length : Int) := by omega
  have hnc : zs.length ≤ c := by
    rcases hown.2 with ⟨e, _⟩ | ⟨_, cap, _, e, _, _, hc, _⟩
    · injection e with _ e2 e3; omega
    · injection e with _ _ e3; omega
  rw [← hr]
  have HRr : Aside (r = (at_ + 7) / 8) := hr
  clear hr
  rcases hown.2 with ⟨e, h0⟩ | ⟨g2, cap, cur, e, hg2, hb2, hc2, hcm, _⟩
  · injection e with e1 e2 e3
    subst e1 e3
    obtain rfl : r = 0 := by omega
    have hz : zs = [] := List.eq_nil_of_length_eq_zero h0
    subst hz
    have HD : Aside (Reads w.drew .u8 none 0 []) := Reads.nil _ _
    clear hown HRr
    go_enter Tryz.func23, Tryz.ntmps23
    go_wp2_with fail
    refine (gone_any H.out).mono ?_
    rintro e w' ⟨rfl, rfl⟩
    simp only [List.length_nil, Int.natCast_zero] at *
    go_wp2_with fail
    go_region_held3 (fun w' => w'.cell? ⟨g, 0, none⟩ = some (.slice none 0 0) ∧ w'.cell? ⟨g, 1, none⟩ = some (.int .i64 at_)) (first | go_keep | exact ⟨c0, c1⟩)
      ((refine step_append_row w.heap.size (by rfl) _ _ 24 5 .u8 1 (by rfl) Tryz.underlying24 infoByte (by omega) (.slice none 0 0) [] [] _ 0 0 (by rfl) (by rfl) (by exact HO.out) (by exact HD.out) (by exact Nat.le_refl _) (by simp) ?_; intro v1 w1 hown1 hg1 hat1; have hb1 : Below w.heap.size w w1 := (Below.refl _ _).drew.trans (own_grown HO.out hg1 (Nat.le_refl _)); have c0 := (hb1.cell (p := ⟨g, 0, none⟩) hglt).trans c0; have c1 := (hb1.cell (p := ⟨g, 1, none⟩) hglt).trans c1))
    go_wp2
    go_ret
    exact ⟨v1, rfl, by simpa using hown1, hb1⟩
  · injection e with e1 e2 e3
    subst e1 e3
    have hcm' : c ≤ 9223372036854775807 := by simpa [maxLen] using hcm
    have hdl : Aside ((zs.drop r).length = zs.length - r) := by show List.length _ = _; rw [List.length_drop]
    by_cases hcr : c = r
    · have hrn2 : zs.length = r := by omega
      have HD : Aside (Reads w.drew .u8 (some ⟨g2, 0, none⟩) 0 (zs.drop r)) := ⟨by rw [hdl.out]; omega, by omega, fun h => by omega⟩
      have c0 : w.cell? ⟨g, 0, none⟩ = some (.slice (some ⟨g2, 0, none⟩) r r) := by rw [c0, hrn2, hcr]
      rw [hrn2] at hdl s5 hrn ⊢
      subst hcr
      clear hown hb2 HRr
      generalize zs.drop c = ys at *
      have HY : Aside (ys.length = c - c) := by show ys.length = c - c; rw [hdl.out]
      go_enter Tryz.func23, Tryz.ntmps23
      go_wp2_with fail
      refine (gone_any H.out).mono ?_
      rintro e w' ⟨rfl, rfl⟩
      go_wp2_with fail
      go_region_held3 (fun w' => w'.cell? ⟨g, 0, none⟩ = some (.slice (some ⟨g2, 0, none⟩) c c) ∧ w'.cell? ⟨g, 1, none⟩ = some (.int .i64 at_)) (first | go_keep | exact ⟨c0, c1⟩)
        ((refine step_append_row w.heap.size (by rfl) _ _ 24 5 .u8 1 (by rfl) Tryz.underlying24 infoByte (by omega) (.slice none 0 0) [] ys _ 0 0 (by rfl) (by first | rfl | simp) (by exact HO.out) (by exact HD.out) (by exact Nat.le_refl _) (by simp) ?_; intro v1 w1 hown1 hg1 hat1; have hb1 : Below w.heap.size w w1 := (Below.refl _ _).drew.trans (own_grown HO.out hg1 (Nat.le_refl _)); have c0 := (hb1.cell (p := ⟨g, 0, none⟩) hglt).trans c0; have c1 := (hb1.cell (p := ⟨g, 1, none⟩) hglt).trans c1))
      go_wp2
      go_ret
      exact ⟨v1, rfl, by rw [List.nil_append, HY.out] at hown1; exact hown1, hb1⟩
    · have HD : Aside (Reads w.drew .u8 (some ⟨g2, r, none⟩) (zs.length - r) (zs.drop r)) := by have := (HRD.out.below ((Below.refl _ _).drew)).drop_ r hrn; rwa [Nat.zero_add] at this
      clear hown hb2
      generalize zs.drop r = ys at *
      generalize hn : zs.length = n at *
      have s6 : (n : Int) ≤ (c : Int) := by omega
      have hsl : ∀ W : World, (Instr.slice 24 (.slice (some ⟨g2, 0, none⟩) n c) (some (.int .i64 (r : Int))) none none).run Tryz.prog W = .ok (.slice (some ⟨g2, r, none⟩) (n - r) (c - r)) W := by
        intro W
        rw [run_slice_l (P := Tryz.prog) W 24 (some ⟨g2, 0, none⟩) n c (by kernel_rfl) .i64 (r : Int) s4 s5]
        have hsz : (sizeOf (Tryz.prog.elem 24)).run Tryz.prog W = .ok 1 W := by kernel_rfl
        rw [hsz]
        simp [sliced, Result.andThen, hcr, Addr.add_lit]
      have HCR : Aside (¬ c = r) := hcr
      clear hcr
      go_enter Tryz.func23, Tryz.ntmps23
      go_wp2_with fail
      refine (gone_any H.out).mono ?_
      rintro e w' ⟨rfl, rfl⟩
      go_wp2_with fail
      go_region_held3 (fun w' => w'.cell? ⟨g, 0, none⟩ = some (.slice (some ⟨g2, 0, none⟩) n c) ∧ w'.cell? ⟨g, 1, none⟩ = some (.int .i64 at_)) (first | go_keep | exact ⟨c0, c1⟩)
        ((refine step_append_row w.heap.size (by rfl) _ _ 24 5 .u8 1 (by rfl) Tryz.underlying24 infoByte (by omega) (.slice none 0 0) [] ys _ (n - r) (c - r) (by rfl) (by rfl) (by exact HO.out) (by exact HD.out) (by exact Nat.le_refl _) (by simp; omega) ?_; intro v1 w1 hown1 hg1 hat1; have hb1 : Below w.heap.size w w1 := (Below.refl _ _).drew.trans (own_grown HO.out hg1 (Nat.le_refl _)); have c0 := (hb1.cell (p := ⟨g, 0, none⟩) hglt).trans c0; have c1 := (hb1.cell (p := ⟨g, 1, none⟩) hglt).trans c1))
      go_wp2
      go_ret
      exact ⟨v1, rfl, by rw [List.nil_append, hdl.out] at hown1; exact hown1, hb1⟩
end Go.Proofs.YtmoakgkoahjijaaGreatDoor

/- The cursor's Take. -/
set_option linter.unusedVariables false
set_option linter.unusedSimpArgs false
namespace Go.Proofs.YtmoakgkoahjijaaGreatDoor
open Go.RowKit PkMath

theorem CurAt.step {base top : Nat} {w : World} {g : Nat} {zs : List Int} {a : Nat} (h : CurAt base top w g zs a) (b : Nat) (hb : b ≤ 8 * zs.length) : CurAt base top (w.setCell ⟨g, 1, none⟩ (.int .i64 (b : Int))) g zs b := by
  obtain ⟨h1, h2, h3, A, c, h4, h5, h6⟩ := h
  refine ⟨h1, h2, hb, A, c, ?_, ?_, h6⟩
  · have := setCell_heap h4 1 (.int .i64 (b : Int))
    rw [this]; rfl
  · refine ⟨h5.1, h5.2.elim .inl ?_⟩
    rintro ⟨g2, cap, cur, e, e2, e3, r⟩
    refine .inr ⟨g2, cap, cur, e, e2, ?_, r⟩
    rw [Below.heap_setCell _ _ _ _ ?_]
    · exact e3
    · injection e with e _ _
      subst e
      exact (h6 _ rfl).1
theorem CurAt.drewN {base top : Nat} {w : World} {g : Nat} {zs : List Int} {a : Nat} (h : CurAt base top w g zs a) (n : Nat) : CurAt base top (w.drewN n) g zs a := h.below ⟨rfl, rfl, rfl, Nat.le_refl _, fun _ _ => rfl⟩
/-- The bytes are read. -/
theorem CurAt.byte {base top : Nat} {w : World} {g : Nat} {zs : List Int} {a : Nat} (h : CurAt base top w g zs a) (j : Nat) (hj : j < zs.length) : ∃ g2 c, w.heap[g]? = some (.cells #[.slice (some ⟨g2, 0, none⟩) zs.length c, .int .i64 (a : Int), .bool true] 76 (0, 0)) ∧ w.cell? ⟨g2, j, none⟩ = some (.int .u8 (zs.getD j 0)) := by
  obtain ⟨h1, h2, h3, A, c, h4, h5, h6⟩ := h
  obtain ⟨g2, c2, e, _⟩ := own_some h5 (by omega)
  injection e with e1 _ e3
  subst e1 e3
  exact ⟨g2, c, h4, own_at h5 j hj⟩

set_option maxRecDepth 100000 in
set_option maxHeartbeats 3200000 in
theorem Take_short {base top : Nat} {w : World} {g : Nat} {zs : List Int} {at_ : Nat} (h : CurAt base top w g zs at_) (wd : Nat) (h1 : 1 ≤ wd) (h2 : wd ≤ 128) (h3 : 8 * zs.length - at_ < wd) :
    Calls Tryz.prog 17 #[.pointer (some ⟨g, 0, none⟩), .int .i64 (wd : Int)] w fun e w' => e = .returned (.tuple #[bitsV 0 0 0, .int .i64 9]) ∧ Below w.heap.size w w' := by
  have hB := (Below.refl w.heap.size w).alloc (Nat.le_refl _) (.cells #[.int .i64 0, .int .u64 0, .int .u64 0] 79 (0,0))
  have H : Aside (CurAt base top (w.alloc (.cells #[.int .i64 0, .int .u64 0, .int .u64 0] 79 (0,0))) g zs at_) := h.below hB
  have hal := h.2.2.1
  have hd1 : decide ((wd : Int) < 1) = false := decide_eq_false (by omega)
  have hd2 : decide (128 < (wd : Int)) = false := decide_eq_false (by omega)
  have hd3 : 8 * (zs.length : Int) - (at_ : Int) < (wd : Int) := by omega
  clear h
  generalize hn : zs.length = n at *
  go_enter Tryz.func17, Tryz.ntmps17
  go_wp2_with fail
  refine (gone_any H.out).mono ?_
  rintro e w' ⟨rfl, rfl⟩
  go_wp2_with fail
  refine (left1_any H.out).mono ?_
  rintro e w' ⟨rfl, q, rfl⟩
  rw [hn]
  go_wp2
  have h4 : ((w.alloc (.cells #[.int .i64 0, .int .u64 0, .int .u64 0] 79 (0,0))).drewN q).heap[w.heap.size]? = some (.cells #[.int .i64 0, .int .u64 0, .int .u64 0] 79 (0,0)) := heap_alloc_new ..
  refine bodyPost_ret (results_row_tmp rfl _ _ w.heap.size 79 _ (0,0) _ rfl (set3 h4 _ _ _) Tryz.underlying79 rfl (by kernel_rfl)) rfl ⟨rfl, ?_⟩
  exact (((below_drewN hB q).setCell (p := ⟨_, _, _⟩) (Nat.le_refl _) _).setCell (p := ⟨_, _, _⟩) (Nat.le_refl _) _).setCell (p := ⟨_, _, _⟩) (Nat.le_refl _) _
end Go.Proofs.YtmoakgkoahjijaaGreatDoor

/- The cursor's Take, of bits that are there. -/
set_option linter.unusedVariables false
set_option linter.unusedSimpArgs false
namespace Go.Proofs.YtmoakgkoahjijaaGreatDoor
open Go.RowKit PkMath

/-- What bits tell, in two halves. -/
def hiOf (v : Nat) : Int := ((v / 18446744073709551616 : Nat) : Int)
def loOf (v : Nat) : Int := ((v % 18446744073709551616 : Nat) : Int)

theorem min2_run (a b n : Nat) (h : n = min a b) (W : World) : (Builtin.min_ #[3, 3] 3 #[.int .i64 (a : Int), .int .i64 (b : Int)]).run Tryz.prog W = .ok (.int .i64 (n : Int)) W := by
  have e : (if (b : Int) < (a : Int) then (b : Int) else (a : Int)) = (n : Int) := by split <;> omega
  simp [Builtin.min_, Builtin.min2]
  by_cases hb : b < a
  · rw [if_pos hb]; omega
  · rw [if_neg hb]; omega
/-- The bits of one byte, as Go takes them. -/
theorem part_eq (x : Int) (hx : 0 ≤ x ∧ x ≤ 255) (fk k : Nat) (h1 : 1 ≤ k) (h8 : k ≤ 8) : ∃ p : Nat, bits .and .u8 (x / 2 ^ fk) ((2 ^ k - 1) % 256) = (p : Int) ∧ p = x.toNat / 2 ^ fk % 2 ^ k := by
  refine ⟨x.toNat / 2 ^ fk % 2 ^ k, ?_, rfl⟩
  obtain ⟨n, rfl⟩ := Int.eq_ofNat_of_zero_le hx.1
  have hp : (2:Int) ^ fk = ((2 ^ fk : Nat) : Int) := by simp
  have hq : (2:Int) ^ k = ((2 ^ k : Nat) : Int) := by simp
  have hk : 2 ^ k ≤ 2 ^ 8 := Nat.pow_le_pow_right (by decide) h8
  have hpos : 0 < 2 ^ k := Nat.two_pow_pos k
  have hdiv : n / 2 ^ fk ≤ n := Nat.div_le_self _ _
  have e : ((2:Int) ^ k - 1) % 256 = 2 ^ k - 1 := by rw [hq]; omega
  rw [e, hp]
  have e2 : (n : Int) / ((2 ^ fk : Nat) : Int) = ((n / 2 ^ fk : Nat) : Int) := (Int.natCast_ediv n (2 ^ fk)).symm
  rw [e2, Int.toNat_natCast]
  generalize n / 2 ^ fk = q at *
  rw [bits_mask .u8 8 (by decide) wraps_u8 k h8 _ (by omega) (by omega), hq]
  simp
/-- Two halves, moved up by some bits, and these. -/
theorem halves (v t k m p : Nat) (hv : v < 2 ^ t) (htk : t + k ≤ 128) (h1 : 1 ≤ k) (h8 : k ≤ 8) (hm : m + k = 64) (hp : p < 2 ^ k) :
    bits .or .u64 (IntKind.u64.wrap (hiOf v * 2 ^ k)) (loOf v / 2 ^ m) = hiOf (v * 2 ^ k + p) ∧ bits .or .u64 (IntKind.u64.wrap (loOf v * 2 ^ k)) (p : Int) = loOf (v * 2 ^ k + p) := by
  have hb : v < 2 ^ (128 - k) := Nat.lt_of_lt_of_le hv (Nat.pow_le_pow_right (by decide) (by omega))
  have key : ∀ x y : Int, 0 ≤ x → x % 2 ^ k = 0 → x < 2 ^ 64 → 0 ≤ y → y < 2 ^ k → bits .or .u64 x y = x + y := fun x y a b c d e => by
    have h2 : (2 : Int) ^ k ≤ 2 ^ 64 := by exact_mod_cast Nat.pow_le_pow_right (n := 2) (by decide) (by omega : k ≤ 64)
    exact bits_join .u64 64 (by decide) wraps_u64 k x y a b c d e (by omega)
  unfold hiOf loOf
  have hm2 : m = 64 - k := by omega
  subst hm2
  clear hv hm htk
  obtain rfl | rfl | rfl | rfl | rfl | rfl | rfl | rfl : k = 1 ∨ k = 2 ∨ k = 3 ∨ k = 4 ∨ k = 5 ∨ k = 6 ∨ k = 7 ∨ k = 8 := by omega
  all_goals
    rw [IntKind.wrap_u64, IntKind.wrap_u64]
    simp only [Nat.reduceSub, Nat.reducePow] at hb hp ⊢
    rw [key _ _ (by omega) (by omega) (by omega) (by omega) (by omega), key _ _ (by omega) (by omega) (by omega) (by omega) (by omega)]
    constructor <;> omega
/-- A store into a block of another type. -/
theorem CurAt.far {base top : Nat} {w : World} {g : Nat} {zs : List Int} {a : Nat} (h : CurAt base top w g zs a) {p : Addr} (hg : p.block ≠ g) {cs : Array Value} (ht : w.heap[p.block]? = some (.cells cs 79 (0, 0))) (u : Value) : CurAt base top (w.setCell p u) g zs a := by
  obtain ⟨h1, h2, h3, A, c, h4, h5, h6⟩ := h
  refine ⟨h1, h2, h3, A, c, ?_, ?_, h6⟩
  · rw [Below.heap_setCell _ _ _ _ (Ne.symm hg)]; exact h4
  · refine ⟨h5.1, h5.2.elim .inl ?_⟩
    rintro ⟨g2, cap, cur, e, e2, e3, r⟩
    refine .inr ⟨g2, cap, cur, e, e2, ?_, r⟩
    rw [Below.heap_setCell _ _ _ _ ?_]
    · exact e3
    · intro e4
      rw [← e4, e3] at ht
      injection ht with ht
      injection ht with _ ht _
      exact absurd ht (by decide)
/-- Bits that fit are not cut. -/
theorem cut_same (v w : Nat) (hv : v < 2 ^ w) (hw : w ≤ 128) : (cutHi w (hiOf v) = hiOf v ∧ cutLo w (loOf v) = loOf v) ∧ (0 ≤ hiOf v ∧ hiOf v ≤ 18446744073709551615) ∧ (0 ≤ loOf v ∧ loOf v ≤ 18446744073709551615) := by
  have h128 : v < 2 ^ 128 := Nat.lt_of_lt_of_le hv (Nat.pow_le_pow_right (by decide) hw)
  have hb : (0 ≤ hiOf v ∧ hiOf v ≤ 18446744073709551615) ∧ (0 ≤ loOf v ∧ loOf v ≤ 18446744073709551615) := by
    unfold hiOf loOf
    refine ⟨⟨by omega, by omega⟩, by omega, by omega⟩
  refine ⟨?_, hb⟩
  unfold cutHi cutLo
  by_cases h : w < 64
  · rw [if_pos h, if_pos h]
    have h64 : 2 ^ w ≤ 2 ^ 63 := Nat.pow_le_pow_right (by decide) (by omega)
    have hp : (2 : Int) ^ w = ((2 ^ w : Nat) : Int) := by simp
    unfold hiOf loOf
    refine ⟨by omega, ?_⟩
    rw [hp, Nat.mod_eq_of_lt (by omega)]
    exact Int.emod_eq_of_lt (by omega) (by omega)
  · rw [if_neg h, if_neg h]
    refine ⟨?_, rfl⟩
    have hp : (2 : Int) ^ (w - 64) = ((2 ^ (w - 64) : Nat) : Int) := by simp
    have hdiv : v / 18446744073709551616 < 2 ^ (w - 64) := by
      rw [Nat.div_lt_iff_lt_mul (by decide)]
      have : 2 ^ (w - 64) * 18446744073709551616 = 2 ^ w := by
        rw [show (18446744073709551616 : Nat) = 2 ^ 64 by decide, ← Nat.pow_add]
        congr 1
        omega
      omega
    unfold hiOf
    rw [hp]
    exact Int.emod_eq_of_lt (by omega) (by omega)
theorem win_zero (l : List Bool) (a : Nat) : win l a 0 = [] := by simp [win]

set_option maxRecDepth 100000 in
set_option maxHeartbeats 3200000 in
theorem Take_ok {base top : Nat} {w : World} {g : Nat} {zs : List Int} {at_ : Nat} (hx : ∀ j, 0 ≤ zs.getD j 0 ∧ zs.getD j 0 ≤ 255) (h : CurAt base top w g zs at_) (wd : Nat) (h1 : 1 ≤ wd) (h2 : wd ≤ 128) (h3 : at_ + wd ≤ 8 * zs.length) :
    Calls Tryz.prog 17 #[.pointer (some ⟨g, 0, none⟩), .int .i64 (wd : Int)] w fun e w' => e = .returned (.tuple #[bitsV wd (hiOf (numOf (win (bitsL zs) at_ wd))) (loOf (numOf (win (bitsL zs) at_ wd))), .int .i64 0]) ∧ CurAt base top w' g zs (at_ + wd) ∧ Foot (fun k => k = g) w w' := by
  have hB := (Below.refl w.heap.size w).alloc (Nat.le_refl _) (.cells #[.int .i64 0, .int .u64 0, .int .u64 0] 79 (0,0))
  have H : Aside (CurAt base top (w.alloc (.cells #[.int .i64 0, .int .u64 0, .int .u64 0] 79 (0,0))) g zs at_) := h.below hB
  have hgs := h.lt
  have hz6 := h.2.1
  have hd1 : decide ((wd : Int) < 1) = false := decide_eq_false (by omega)
  have hd2 : decide (128 < (wd : Int)) = false := decide_eq_false (by omega)
  have hd3 : (wd : Int) ≤ 8 * (zs.length : Int) - (at_ : Int) := by omega
  have HZ : Aside (∀ j, 0 ≤ zs.getD j 0 ∧ zs.getD j 0 ≤ 255) := hx
  have h4 : (w.alloc (.cells #[.int .i64 0, .int .u64 0, .int .u64 0] 79 (0,0))).heap[w.heap.size]? = some (.cells #[.int .i64 0, .int .u64 0, .int .u64 0] 79 (0,0)) := heap_alloc_new ..
  have HB : Aside (Below w.heap.size w (w.alloc (.cells #[.int .i64 0, .int .u64 0, .int .u64 0] 79 (0,0))) ∧ (w.alloc (.cells #[.int .i64 0, .int .u64 0, .int .u64 0] 79 (0,0))).heap[w.heap.size]? = some (.cells #[.int .i64 0, .int .u64 0, .int .u64 0] 79 (0,0))) := ⟨hB, h4⟩
  clear h hx hB h4
  generalize hV : w.alloc (.cells #[.int .i64 0, .int .u64 0, .int .u64 0] 79 (0,0)) = V at *
  have HV : Aside (w.alloc (.cells #[.int .i64 0, .int .u64 0, .int .u64 0] 79 (0,0)) = V) := hV
  clear hV
  go_enter Tryz.func17, Tryz.ntmps17
  go_wp2_with fail
  rw [HV.out]
  refine (gone_any H.out).mono ?_
  rintro e w' ⟨rfl, rfl⟩
  go_wp2_with fail
  refine (left1_any H.out).mono ?_
  rintro e w' ⟨rfl, q, rfl⟩
  go_wp2
  go_loopw [6, 7, 8] (fun hi lo n wr => ∃ t : Nat, t ≤ wd ∧ n = .int .i64 ((wd - t : Nat) : Int) ∧ hi = .int .u64 (hiOf (numOf (win (bitsL zs) at_ t))) ∧ lo = .int .u64 (loOf (numOf (win (bitsL zs) at_ t))) ∧ Aside (CurAt base top wr g zs (at_ + t) ∧ Foot (fun k => k = g) V wr)) (fun _ _ n _ => (intOf n).toNat)
  case atStart => exact ⟨0, Nat.zero_le _, by simp, by rw [win_zero]; rfl, by rw [win_zero]; rfl, ⟨H.out.drewN q, (Foot.refl _ V).drewN q⟩⟩
  case round =>
    obtain ⟨t, ht, rfl, rfl, rfl, hI⟩ := hrel
    clear H
    by_cases hlt : t < wd
    · obtain ⟨a, ha⟩ : ∃ a, a = at_ + t := ⟨_, rfl⟩
      obtain ⟨k, hk⟩ : ∃ k, k = min (8 - a % 8) (wd - t) := ⟨_, rfl⟩
      have hk1 : 1 ≤ k := by omega
      have hk8 : k ≤ 8 := by omega
      have hak : a % 8 + k ≤ 8 := by omega
      have hktw : t + k ≤ wd := by omega
      rw [← ha] at hI
      obtain ⟨g2, c, hb, hbyte⟩ := hI.out.1.byte (a / 8) (by omega)
      have c0 : wr.cell? ⟨g, 0, none⟩ = some (.slice (some ⟨g2, 0, none⟩) zs.length c) := cellOf hb 0
      have c1 : wr.cell? ⟨g, 1, none⟩ = some (.int .i64 (a : Int)) := cellOf hb 1
      have f1 := frozenOf hb 1
      have hxb := HZ.out (a / 8)
      obtain ⟨j, hj⟩ : ∃ j, j = a / 8 := ⟨_, rfl⟩
      rw [← hj] at hbyte hxb
      have hjn : j < zs.length := by omega
      obtain ⟨fr, hfr⟩ : ∃ fr : Nat, fr = 8 - a % 8 := ⟨_, rfl⟩
      have HK : Aside (k = min (8 - a % 8) (wd - t) ∧ a = at_ + t ∧ j = a / 8 ∧ fr = 8 - a % 8) := ⟨hk, ha, hj, hfr⟩
      generalize hnt : wd - t = nn at *
      have HNT : Aside (wd - t = nn) := hnt
      have s1 : (8 : Int) - (a : Int) % 8 = (fr : Int) := by omega
      have s2 : (8 : Int) - ((a : Int).tmod 8) = (fr : Int) := by rw [Int.tmod_eq_emod_of_nonneg (by omega)]; exact s1
      have s3 : (a : Int) / 8 = (j : Int) := by omega
      have s4 : (a : Int).tdiv 8 = (j : Int) := by rw [Int.tdiv_eq_ediv_of_nonneg (by omega)]; exact s3
      have hnn : (0 : Int) < (nn : Int) := by omega
      have hmn := min2_run fr nn k (by omega)
      clear hb hk ha hj hfr hnt
      obtain ⟨fk, hfk⟩ : ∃ fk : Nat, fr = fk + k := ⟨fr - k, by have := HK.out; omega⟩
      have s5 : (fr : Int) - (k : Int) = (fk : Int) := by omega
      have s6 : (0 : Int) ≤ (j : Int) := by omega
      have s7 : (j : Int) < (zs.length : Int) := by omega
      have HFK : Aside (fr = fk + k) := hfk
      clear hfk
      generalize hbx : zs.getD j 0 = x at *
      have HBX : Aside (zs.getD j 0 = x) := hbx
      clear hbx
      have s8 : IntKind.i64.wrap (fk : Int) = (fk : Int) := by rw [IntKind.wrap_i64]; have := HFK.out; have := HK.out; omega
      have s9 : IntKind.i64.wrap (j : Int) = (j : Int) := by rw [IntKind.wrap_i64]; omega
      have s10 : (0 : Int) ≤ (fk : Int) := by omega
      have s11 : (0 : Int) ≤ (k : Int) := by omega
      obtain ⟨p, hp, hpv⟩ := part_eq x hxb fk k hk1 hk8
      have HPV : Aside (p = x.toNat / 2 ^ fk % 2 ^ k) := hpv
      have hpk : p < 2 ^ k := by rw [hpv]; exact Nat.mod_lt _ (Nat.two_pow_pos k)
      have hp256 : p ≤ 255 := by
        have : 2 ^ k ≤ 2 ^ 8 := Nat.pow_le_pow_right (by decide) hk8
        omega
      have HPK : Aside (p < 2 ^ k) := hpk
      clear hpv hpk
      obtain ⟨n2, hn2⟩ : ∃ n2 : Nat, n2 + k = nn := ⟨nn - k, by have := HK.out; omega⟩
      have s15 : (nn : Int) - (k : Int) = (n2 : Int) := by omega
      have HN2 : Aside (n2 + k = nn) := hn2
      have s17 : (n2 : Int) ≤ 128 := by have := HNT.out; omega
      have s18 : (0 : Int) ≤ (n2 : Int) := by omega
      have s19 : (nn : Int) ≤ 128 := by have := HNT.out; omega
      clear hn2
      obtain ⟨m, hm⟩ : ∃ m : Nat, m + k = 64 := ⟨64 - k, by omega⟩
      have s12 : (64 : Int) - (k : Int) = (m : Int) := by omega
      have s13 : IntKind.i64.wrap (m : Int) = (m : Int) := by rw [IntKind.wrap_i64]; omega
      have s14 : (0 : Int) ≤ (m : Int) := by omega
      have hbl : (bitsL zs).length = 8 * zs.length := bitsL_length zs
      have hnew : numOf (win (bitsL zs) at_ (t + k)) = numOf (win (bitsL zs) at_ t) * 2 ^ k + p := by
        have hw : numOf (win (bitsL zs) a k) = p := by
          have h := numOf_win_byte zs a k hak (by have := HK.out; omega) (by omega)
          rw [← HK.out.2.2.1, HBX.out] at h
          rw [h, HPV.out]
          congr 2
          have := HK.out; have := HFK.out
          congr 1
          omega
        rw [win_add, numOf_append, ← HK.out.2.1, hw, win_length _ _ _ (by have := HK.out; omega)]
      have hvlt : numOf (win (bitsL zs) at_ t) < 2 ^ t := by
        have h := numOf_lt (win (bitsL zs) at_ t)
        rwa [win_length _ _ _ (by omega)] at h
      have hh := halves (numOf (win (bitsL zs) at_ t)) t k m p hvlt (by omega) hk1 hk8 hm HPK.out
      rw [← hnew] at hh
      have HN : Aside (bits .or .u64 (IntKind.u64.wrap (hiOf (numOf (win (bitsL zs) at_ t)) * 2 ^ k)) (loOf (numOf (win (bitsL zs) at_ t)) / 2 ^ m) = hiOf (numOf (win (bitsL zs) at_ (t + k))) ∧ bits .or .u64 (IntKind.u64.wrap (loOf (numOf (win (bitsL zs) at_ t)) * 2 ^ k)) (p : Int) = loOf (numOf (win (bitsL zs) at_ (t + k)))) := hh
      clear hbl hnew hvlt hh
      have hI2 : Aside (∀ n, CurAt base top ((wr.drewN n).setCell ⟨g, 1, none⟩ (.int .i64 ((a + k : Nat) : Int))) g zs (at_ + (t + k)) ∧ Foot (fun k => k = g) V ((wr.drewN n).setCell ⟨g, 1, none⟩ (.int .i64 ((a + k : Nat) : Int)))) := by
        intro n
        have e : at_ + (t + k) = a + k := by rw [HK.out.2.1]; omega
        rw [e]
        exact ⟨(hI.out.1.drewN n).step (a + k) (by have := HK.out; omega), (hI.out.2.drewN n).setCell (p := ⟨_, _, _⟩) (.inl rfl) _⟩
      generalize hhi : hiOf (numOf (win (bitsL zs) at_ t)) = hi at *
      generalize hlo : loOf (numOf (win (bitsL zs) at_ t)) = lo at *
      have HHL : Aside (hiOf (numOf (win (bitsL zs) at_ t)) = hi ∧ loOf (numOf (win (bitsL zs) at_ t)) = lo) := ⟨hhi, hlo⟩
      clear hhi hlo
      go_wp2_with fail
      go_quiet (fail)
      go_wp2_with fail
      go_quiet (fail)
      go_wp2
      go_roundw
      case rel => exact ⟨t + k, by have := HK.out; omega, by have h1 := HK.out; have h2 := HNT.out; have h3 := HN2.out; (rw [show wd - (t + k) = n2 by omega]), by rw [HN.out.1], by rw [HN.out.2], by have h := hI2.out; simpa [Aside] using h _⟩
      case measure => simp [intOf]; have h3 := HN2.out; omega
    · obtain rfl : t = wd := by omega
      have hbl : (bitsL zs).length = 8 * zs.length := bitsL_length zs
      have hvlt : numOf (win (bitsL zs) at_ t) < 2 ^ t := by
        have h := numOf_lt (win (bitsL zs) at_ t)
        rwa [win_length _ _ _ (by omega)] at h
      obtain ⟨hcut, hbd⟩ := cut_same (numOf (win (bitsL zs) at_ t)) t hvlt h2
      have HC : Aside (cutHi t (hiOf (numOf (win (bitsL zs) at_ t))) = hiOf (numOf (win (bitsL zs) at_ t)) ∧ cutLo t (loOf (numOf (win (bitsL zs) at_ t))) = loOf (numOf (win (bitsL zs) at_ t))) := hcut
      clear hbl hvlt hcut
      generalize hhi : hiOf (numOf (win (bitsL zs) at_ t)) = hi at *
      generalize hlo : loOf (numOf (win (bitsL zs) at_ t)) = lo at *
      have HHL : Aside (hiOf (numOf (win (bitsL zs) at_ t)) = hi ∧ loOf (numOf (win (bitsL zs) at_ t)) = lo) := ⟨hhi, hlo⟩
      clear hhi hlo
      have h0 : ((t - t : Nat) : Int) = 0 := by omega
      rw [h0]
      have h5 : wr.heap[w.heap.size]? = some (.cells #[.int .i64 0, .int .u64 0, .int .u64 0] 79 (0,0)) := hI.out.2.blk HB.out.2 (by show ¬ w.heap.size = g; omega)
      have HS : Aside (w.heap.size < wr.heap.size) := (Array.getElem?_eq_some_iff.1 h5).1
      clear h0
      go_wp2_with fail
      refine (of_any t hi lo _ h1 h2 hbd.1 hbd.2).mono ?_
      rintro e w2 ⟨rfl, hb2⟩
      rw [HC.out.1, HC.out.2]
      unfold bitsV
      have h6 := (hb2.block w.heap.size HS.out).trans h5
      have d0 : w2.cell? ⟨w.heap.size, 0, none⟩ = some (.int .i64 0) := cellOf h6 0
      have d1 : w2.cell? ⟨w.heap.size, 1, none⟩ = some (.int .u64 0) := cellOf h6 1
      have d2 : w2.cell? ⟨w.heap.size, 2, none⟩ = some (.int .u64 0) := cellOf h6 2
      have f0 := frozenOf h6 0
      have f1 := frozenOf h6 1
      have f2 := frozenOf h6 2
      have H6 : Aside _ := h6
      clear h5 h6
      go_wp2
      refine bodyPost_ret (results_row_tmp rfl _ _ w.heap.size 79 _ (0,0) _ rfl (set3 H6.out _ _ _) Tryz.underlying79 rfl (by kernel_rfl)) rfl ⟨by rw [HHL.out.1, HHL.out.2]; rfl, ?_, ?_⟩
      · have q0 := hI.out.1.below hb2
        have hne : w.heap.size ≠ g := by omega
        have q1 := q0.far (p := ⟨w.heap.size, 0, none⟩) hne H6.out (.int .i64 (t : Int))
        have q2 := q1.far (p := ⟨w.heap.size, 1, none⟩) hne (setCell_heap H6.out 0 _) (.int .u64 hi)
        exact q2.far (p := ⟨w.heap.size, 2, none⟩) hne (setCell_heap (setCell_heap H6.out 0 _) 1 _) (.int .u64 lo)
      · have r0 : Foot (fun k => k = g) w wr := (Foot.ofBelow HB.out.1 (fun k => k = g)).trans hI.out.2 (fun i hi => .inl hi)
        have r1 : Foot (fun k => k = g) w w2 := r0.trans (Foot.ofBelow hb2 (fun k => k = g)) (fun i hi => .inl hi)
        exact ((r1.setCell (p := ⟨w.heap.size, 0, none⟩) (.inr (Nat.le_refl _)) _).setCell (p := ⟨w.heap.size, 1, none⟩) (.inr (Nat.le_refl _)) _).setCell (p := ⟨w.heap.size, 2, none⟩) (.inr (Nat.le_refl _)) _
end Go.Proofs.YtmoakgkoahjijaaGreatDoor

/- append onto a row of the call's own, of elements of any number of cells. -/
set_option linter.unusedVariables false
set_option linter.unusedSimpArgs false
namespace Go.Proofs.YtmoakgkoahjijaaGreatDoor
open Go.RowKit

/-- A slice whose cells are known, as append reads it. -/
def Cells (w : World) (A : Option Addr) (m size : Nat) (ys : List Value) : Prop :=
  ys.length = m * size ∧ (∀ u ∈ ys, u.oneCell' = true) ∧ (0 < m → ∃ ad, A = some ad ∧ ∀ j u, ys[j]? = some u → w.cell? (ad.add j) = some u)
theorem Cells.lit (w : World) (e : TypeId) (cs : Array Value) (m size : Nat) (hl : cs.size = m * size) (h1 : ∀ u ∈ cs.toList, u.oneCell' = true) : Cells (w.alloc (.cells cs e)) (some ⟨w.heap.size, 0, none⟩) m size cs.toList :=
  ⟨by simpa using hl, h1, fun _ => ⟨_, rfl, fun j u hu => by rw [add_plain, cellOf (heap_alloc_new w (.cells cs e)) j]; simpa using hu⟩⟩

theorem run_append_cells {P : Program} {W : World} (base : Nat) (t ty e : TypeId) (z : Value) (size bytes : Nat)
    (ht : P.underlying t = some (.slice e)) (hinfo : (P.info? e).map (fun i => (i.zero, i.size, i.bytes)) = some (some z, size, bytes)) (hz : z.cells.size = size) (hs0 : 0 < size) (hb0 : 0 < bytes)
    (v : Value) (n : Nat) (xs ys : List Value) (A : Option Addr) (m c : Nat)
    (HO : W.ownsRow base e size v n xs) (HC : Cells W A m size ys) (hbase : base ≤ W.heap.size) (hl : (n + m) * bytes ≤ 140737488355328) :
    ∃ v1 w1, (Builtin.append_ #[t, t] ty #[v, .slice A m c]).run P W = .ok v1 w1 ∧ w1.ownsRow base e size v1 (n + m) (xs ++ ys) ∧ W.grownBy w1 v.ownBlock ∧ (v1.ownBlock = v.ownBlock ∨ v1.ownBlock = some W.heap.size) := by
  obtain ⟨i0, hi, hzz⟩ := Option.map_eq_some_iff.1 hinfo
  simp only [Prod.mk.injEq] at hzz
  obtain ⟨hz0, hz1, hz2⟩ := hzz
  have hlen : n + m ≤ 140737488355328 := Nat.le_trans (Nat.le_mul_of_pos_right _ hb0) hl
  rcases A with _ | ad
  · have h0 : m = 0 := by
      rcases Nat.eq_zero_or_pos m with h0 | h0
      · exact h0
      · obtain ⟨ad, h, _⟩ := HC.2.2 h0
        cases h
    subst h0
    obtain rfl : ys = [] := List.eq_nil_of_length_eq_zero (by simpa using HC.1)
    refine ⟨v, W, ?_, by simpa using HO, World.grownBy.refl W _, .inl rfl⟩
    rcases HO.2 with ⟨rfl, hn⟩ | ⟨g, cap, cur, rfl, _, _, hnc, _⟩
    · simp [Builtin.append_, run_underlying ht, sizeOf, typeInfo, hi, Builtin.lenOf, Builtin.firstCells]
    · simp [Builtin.append_, run_underlying ht, sizeOf, typeInfo, hi, Builtin.lenOf, Builtin.firstCells, hnc, storeCells]
  · have hcells : ∀ j u, ys[j]? = some u → W.cell? (ad.add j) = some u := by
      intro j u hu
      rcases Nat.eq_zero_or_pos m with h0 | h0
      · subst h0
        obtain rfl : ys = [] := List.eq_nil_of_length_eq_zero (by simpa using HC.1)
        simp at hu
      · obtain ⟨ad', h', hc⟩ := HC.2.2 h0
        injection h' with h'
        subst h'
        exact hc j u hu
    obtain ⟨v1, w1, hr, h2, h3, _, h5⟩ := run_append_own_at (P := P) W base t ty e i0 z size bytes ht hi hz0 hz1 hz2 hz hs0 v n xs HO ad m c ys HC.1 hcells HC.2.1 (by simp only [maxLen]; omega) hl hbase
    exact ⟨v1, w1, hr, h2, h3, h5⟩
theorem wp_append_cells {P : Program} {o : Oper} {a : Act} {K : Act → World → Prop} {Q : Exit → Act → World → Prop} {W : World} (base : Nat) (s x : Operand) (t e : TypeId) (z : Value) (size bytes : Nat)
    (ho : o.op = .call { callee := .builtin .append, args := #[s, x], argTypes := #[t, t] })
    (ht : P.underlying t = some (.slice e)) (hinfo : (P.info? e).map (fun i => (i.zero, i.size, i.bytes)) = some (some z, size, bytes)) (hz : z.cells.size = size) (hs0 : 0 < size) (hb0 : 0 < bytes)
    (v : Value) (n : Nat) (xs ys : List Value) (A : Option Addr) (m c : Nat) (hs : a.eval s = v) (hx : a.eval x = .slice A m c)
    (HO : W.ownsRow base e size v n xs) (HC : Cells W A m size ys) (hbase : base ≤ W.heap.size) (hl : (n + m) * bytes ≤ 140737488355328)
    (h : ∀ v1 w1, w1.ownsRow base e size v1 (n + m) (xs ++ ys) → W.grownBy w1 v.ownBlock → (v1.ownBlock = v.ownBlock ∨ v1.ownBlock = some W.heap.size) → K (a.put o.dst v1) w1) :
    o.wp P a W K Q := by
  obtain ⟨v1, w1, hr, hown, hg, hat⟩ := run_append_cells (P := P) (W := W) base t o.type e z size bytes ht hinfo hz hs0 hb0 v n xs ys A m c HO HC hbase hl
  unfold Oper.wp execOp
  simp only [ho, resolve, invoke, builtin, Sem.run_bind, Sem.run_pure, Result.andThen_ok, List.map_toArray, List.map_cons, List.map_nil, hs, hx, hr]
  exact h v1 w1 hown hg hat
/-- The law at a plain region's list. -/
theorem append_cells {P : Program} {ops : Array Oper} {rest : List Oper} {o : Oper} {a : Act} {Q : Exit → Act → World → Prop} {W : World} (base : Nat) (hgd : o.guard = none) (s x : Operand) (t e : TypeId) (z : Value) (size bytes : Nat)
    (ho : o.op = .call { callee := .builtin .append, args := #[s, x], argTypes := #[t, t] })
    (ht : P.underlying t = some (.slice e)) (hinfo : (P.info? e).map (fun i => (i.zero, i.size, i.bytes)) = some (some z, size, bytes)) (hz : z.cells.size = size) (hs0 : 0 < size) (hb0 : 0 < bytes)
    (v : Value) (n : Nat) (xs ys : List Value) (A : Option Addr) (m c : Nat) (hs : a.eval s = v) (hx : a.eval x = .slice A m c)
    (HO : W.ownsRow base e size v n xs) (HC : Cells W A m size ys) (hbase : base ≤ W.heap.size) (hl : (n + m) * bytes ≤ 140737488355328)
    (h : ∀ v1 w1, w1.ownsRow base e size v1 (n + m) (xs ++ ys) → W.grownBy w1 v.ownBlock → (v1.ownBlock = v.ownBlock ∨ v1.ownBlock = some W.heap.size) → wpList P ops Q rest (a.put o.dst v1) w1) :
    wpList P ops Q (o :: rest) a W := by
  refine wpList_plain hgd fun K hK => ?_
  exact wp_append_cells base s x t e z size bytes ho ht hinfo hz hs0 hb0 v n xs ys A m c hs hx HO HC hbase hl fun v1 w1 h1 h2 h3 => hK _ _ (h v1 w1 h1 h2 h3)
/-- The law at a step of a region that draws its order. -/
theorem step_append_cells {P : Program} {ops : Array Oper} {o : Oper} {a : Act} {K : Act → World → Prop} {Q : Exit → Act → World → Prop} {E : Prop} {W : World} (base : Nat) (hgd : o.guard = none) (s x : Operand) (t e : TypeId) (z : Value) (size bytes : Nat)
    (ho : o.op = .call { callee := .builtin .append, args := #[s, x], argTypes := #[t, t] })
    (ht : P.underlying t = some (.slice e)) (hinfo : (P.info? e).map (fun i => (i.zero, i.size, i.bytes)) = some (some z, size, bytes)) (hz : z.cells.size = size) (hs0 : 0 < size) (hb0 : 0 < bytes)
    (v : Value) (n : Nat) (xs ys : List Value) (A : Option Addr) (m c : Nat) (hs : a.eval s = v) (hx : a.eval x = .slice A m c)
    (HO : W.ownsRow base e size v n xs) (HC : Cells W A m size ys) (hbase : base ≤ W.heap.size) (hl : (n + m) * bytes ≤ 140737488355328)
    (h : ∀ v1 w1, w1.ownsRow base e size v1 (n + m) (xs ++ ys) → W.grownBy w1 v.ownBlock → (v1.ownBlock = v.ownBlock ∨ v1.ownBlock = some W.heap.size) → K (a.put o.dst v1) w1) :
    if Region.wanted o (yielded ops a.tmps) = true then Oper.wp P o a W K Q else E := by
  have hw : Region.wanted o (yielded ops a.tmps) = true := by simp [Region.wanted, hgd]
  rw [if_pos hw]
  exact wp_append_cells base s x t e z size bytes ho ht hinfo hz hs0 hb0 v n xs ys A m c hs hx HO HC hbase hl h
end Go.Proofs.YtmoakgkoahjijaaGreatDoor

/- A book of lists of bytes, as it lies in memory: a block of its own, a row of what is held, and each list's own blocks. -/
set_option linter.unusedVariables false
set_option linter.unusedSimpArgs false
namespace Go.Proofs.YtmoakgkoahjijaaGreatDoor
open Go.RowKit

/-- The mark of the list of index i (its number is i + 1). -/
def mark (i : Nat) : Int := 1 + (((i + 1) % 250 : Nat) : Int)
theorem mark_bd (i : Nat) : 1 ≤ mark i ∧ mark i ≤ 250 := by unfold mark; omega
def flat3 : Nat → List (Value × Value) → List Value
  | _, [] => []
  | i, p :: ps => p.1 :: p.2 :: .int .i64 ((i : Int) + 1) :: flat3 (i + 1) ps
theorem flat3_length : ∀ (ps : List (Value × Value)) (i : Nat), (flat3 i ps).length = ps.length * 3
  | [], _ => rfl
  | p :: ps, i => by simp only [flat3, List.length_cons, flat3_length ps (i + 1)]; omega
theorem flat3_append : ∀ (a b : List (Value × Value)) (i : Nat), flat3 i (a ++ b) = flat3 i a ++ flat3 (i + a.length) b
  | [], b, i => by simp [flat3]
  | p :: a, b, i => by
    simp only [List.cons_append, flat3, flat3_append a b (i + 1), List.length_cons]
    rw [show i + 1 + a.length = i + (a.length + 1) by omega]
theorem flat3_get : ∀ (ps : List (Value × Value)) (i j : Nat) (p : Value × Value), ps[j]? = some p → (flat3 i ps)[j * 3]? = some p.1 ∧ (flat3 i ps)[j * 3 + 1]? = some p.2 ∧ (flat3 i ps)[j * 3 + 2]? = some (.int .i64 ((i : Int) + (j : Int) + 1))
  | [], i, j, p, h => by cases h
  | q :: ps, i, 0, p, h => by
    simp only [List.getElem?_cons_zero, Option.some.injEq] at h
    subst h
    simp [flat3]
  | q :: ps, i, j + 1, p, h => by
    have h' : ps[j]? = some p := by simpa using h
    obtain ⟨h1, h2, h3⟩ := flat3_get ps (i + 1) j p h'
    rw [show (j + 1) * 3 = j * 3 + 1 + 1 + 1 by omega]
    simp only [flat3, List.getElem?_cons_succ]
    refine ⟨h1, h2, ?_⟩
    rw [h3]
    congr 2
    omega
theorem flat3_set : ∀ (ps : List (Value × Value)) (i j : Nat) (p : Value × Value) (u : Value), ps[j]? = some p → (flat3 i ps).set (j * 3 + 1) u = flat3 i (ps.set j (p.1, u))
  | [], i, j, p, u, h => by cases h
  | q :: ps, i, 0, p, u, h => by
    simp only [List.getElem?_cons_zero, Option.some.injEq] at h
    subst h
    simp [flat3]
  | q :: ps, i, j + 1, p, u, h => by
    have h' : ps[j]? = some p := by simpa using h
    rw [show (j + 1) * 3 + 1 = j * 3 + 1 + 1 + 1 + 1 by omega]
    simp only [flat3, List.set_cons_succ]
    rw [flat3_set ps (i + 1) j p u h']

/-- The book's own cells: how many lists, and the rows of each kind, of which only that of bytes is not empty. -/
def bookCells (N : Nat) (row : Value) : Array Value := #[.int .i64 (N : Int), .slice none 0 0, row, .slice none 0 0, .slice none 0 0, .slice none 0 0, .slice none 0 0, .slice none 0 0, .slice none 0 0, .slice none 0 0, .slice none 0 0, .slice none 0 0, .slice none 0 0, .slice none 0 0, .slice none 0 0, .slice none 0 0,
  .slice none 0 0, .slice none 0 0, .slice none 0 0, .slice none 0 0, .slice none 0 0, .slice none 0 0, .slice none 0 0, .slice none 0 0, .slice none 0 0, .slice none 0 0, .slice none 0 0, .slice none 0 0, .slice none 0 0, .slice none 0 0, .slice none 0 0]
/-- The book at block b; list i has the blocks that F i tells. -/
structure Bk (W : World) (base b : Nat) (row : Value) (ps : List (Value × Value)) (F : Nat → Nat → Prop) : Prop where
  hb : W.heap[b]? = some (.cells (bookCells ps.length row) 61 (0, 0))
  hr : W.ownsRow base 118 3 row ps.length (flat3 0 ps)
  rb : row.ownBlock ≠ some b
  bb : base ≤ b
  fl : ∀ i k, F i k → base ≤ k ∧ k < W.heap.size ∧ k ≠ b ∧ row.ownBlock ≠ some k
  fd : ∀ i j k, F i k → F j k → i = j
/-- A list that is a row of the law's own. -/
def L1 (W : World) (base : Nat) (F : Nat → Prop) (v : Value) (n : Nat) : Prop := ∃ xs : List Int, W.ownsRow base 5 1 v n (nums .u8 xs) ∧ ∀ k, v.ownBlock = some k → F k
/-- It is full of marks. -/
def L2 (W : World) (base : Nat) (F : Nat → Prop) (v : Value) (n : Nat) (i : Nat) : Prop := W.ownsRow base 5 1 v n (nums .u8 (List.replicate n (mark i))) ∧ ∀ k, v.ownBlock = some k → F k
/-- More is put behind it. -/
def L3 (W : World) (base : Nat) (F : Nat → Prop) (v long : Value) (n : Nat) (i : Nat) : Prop :=
  W.ownsRow base 5 1 long (n + 40) (nums .u8 (List.replicate (n + 40) (mark i))) ∧ (∀ k, long.ownBlock = some k → F k) ∧ ∃ A c, v = .slice A n c ∧ n ≤ c ∧ Reads W .u8 A n (List.replicate n (mark i)) ∧ (0 < n → ∃ g, A = some ⟨g, 0, none⟩ ∧ F g)
section
variable {W W' : World} {base b n i : Nat} {F G : Nat → Prop} {v long : Value}
theorem own_foot {e : TypeId} {size m : Nat} {u : Value} {xs : List Value} (h : W.ownsRow base e size u m xs) (hf : Foot G W W') (hne : ∀ k, u.ownBlock = some k → ¬ G k) : W'.ownsRow base e size u m xs := by
  refine ⟨h.1, h.2.elim .inl ?_⟩
  rintro ⟨g, cap, cur, h1, h2, h3, r⟩
  exact .inr ⟨g, cap, cur, h1, h2, hf.blk h3 (hne g (by rw [h1]; rfl)), r⟩
theorem L1.foot (h : L1 W base F v n) (hf : Foot G W W') (hne : ∀ k, F k → ¬ G k) : L1 W' base F v n := by
  obtain ⟨xs, h1, h2⟩ := h
  exact ⟨xs, own_foot h1 hf (fun k hk => hne k (h2 k hk)), h2⟩
theorem L2.foot (h : L2 W base F v n i) (hf : Foot G W W') (hne : ∀ k, F k → ¬ G k) : L2 W' base F v n i := ⟨own_foot h.1 hf (fun k hk => hne k (h.2 k hk)), h.2⟩
theorem Bk.foot {row : Value} {ps : List (Value × Value)} {F : Nat → Nat → Prop} (h : Bk W base b row ps F) (hf : Foot G W W') (hb : ¬ G b) (hr : ∀ k, row.ownBlock = some k → ¬ G k) : Bk W' base b row ps F :=
  ⟨hf.blk h.hb hb, own_foot h.hr hf hr, h.rb, h.bb, fun i k hk => ⟨(h.fl i k hk).1, Nat.lt_of_lt_of_le (h.fl i k hk).2.1 hf.size, (h.fl i k hk).2.2⟩, h.fd⟩
end
/-- An append that makes a new block leaves all old ones as they were. -/
theorem append_far {P : Program} {W w1 : World} {base : Nat} {t ty e : TypeId} {k : IntKind} {bytes : Nat} (ht : P.underlying t = some (.slice e)) (hinfo : (P.info? e).map (fun i => (i.zero, i.size, i.bytes)) = some (some (.int k 0), 1, bytes))
    {v v1 : Value} {xs ys : List Int} {ad : Addr} {m c : Nat} (HO : W.ownsRow base e 1 v xs.length (nums k xs)) (HR : Reads W k (some ad) m ys) (hm : 0 < m) (hl : (xs.length + m) * bytes ≤ 140737488355328) (hb0 : 0 < bytes)
    (hr : (Builtin.append_ #[t, t] ty #[v, .slice (some ad) m c]).run P W = .ok v1 w1) (hat : v1.ownBlock = some W.heap.size) : W.grownBy w1 none := by
  obtain ⟨i0, hi, hzz⟩ := Option.map_eq_some_iff.1 hinfo
  simp only [Prod.mk.injEq] at hzz
  obtain ⟨hz0, hz1, hz2⟩ := hzz
  have hyl : ys.length = m := HR.1
  have hlen : xs.length + m ≤ 140737488355328 := Nat.le_trans (Nat.le_mul_of_pos_right _ hb0) hl
  have hcells : ∀ j u, (nums k ys)[j]? = some u → W.cell? (ad.add j) = some u := by
    intro j u hu
    have hj : j < ys.length := by
      rcases Nat.lt_or_ge j ys.length with h | h
      · exact h
      · simp [nums, List.getElem?_eq_none h] at hu
    obtain ⟨ad', h', hc⟩ := HR.2.2 hm
    injection h' with h'
    subst h'
    have := hc j (by omega)
    simp [nums, List.getElem?_eq_getElem hj] at hu
    subst hu
    rw [this]
    simp [List.getD_eq_getElem?_getD, List.getElem?_eq_getElem hj]
  have hnl : (nums k ys).length = m * i0.size := by rw [hz1]; simp [nums, hyl]
  rcases HO.2 with ⟨rfl, h0⟩ | ⟨g, cap, cur, rfl, hbg, hg, hnc, hcm, hcs, htake⟩
  · have hr2 := run_append_nil (P := P) W t ty e i0 (.int k 0) ht hi hz0 ad m c (nums k ys) hnl hcells hm (by omega) (by rw [hz2]; have : m * bytes ≤ (xs.length + m) * bytes := Nat.mul_le_mul_right _ (by omega); omega)
    rw [hr] at hr2
    injection hr2 with e1 e2
    subst e2
    exact ⟨rfl, rfl, rfl, by simp, fun k hk _ => Below.heap_alloc W.drew _ k hk⟩
  · by_cases hroom : xs.length + m ≤ cap
    · have hr2 := run_append_room (P := P) W t ty e i0 ht hi g xs.length cap cur hg ad m c (nums k ys) hnl hcells (by intro u hu; simp only [nums, List.mem_map] at hu; obtain ⟨q, _, rfl⟩ := hu; rfl) hroom (by rw [hz1, hcs]; simp [nums, hyl]; omega)
      rw [hr] at hr2
      injection hr2 with e1 e2
      subst e1
      have hgl := (Array.getElem?_eq_some_iff.1 hg).1
      have : g = W.heap.size := by simpa [Value.ownBlock] using hat
      omega
    · have hr2 := run_append_grow (P := P) W t ty e i0 (.int k 0) ht hi hz0 ⟨g, 0, none⟩ xs.length cap (nums k xs) (by rw [hz1]; simp [nums]) (HO.cells (g := g) rfl) ad m c (nums k ys) hnl hcells (by omega) (by omega) (by rw [hz2]; exact growslice_fits (by omega) hl)
      rw [hr] at hr2
      injection hr2 with e1 e2
      subst e2
      exact ⟨rfl, rfl, rfl, by simp, fun k hk _ => Below.heap_alloc W.drew _ k hk⟩
theorem wp_append_far {P : Program} {o : Oper} {a : Act} {K : Act → World → Prop} {Q : Exit → Act → World → Prop} {W : World} (base : Nat) (s x : Operand) (t e : TypeId) (k : IntKind) (bytes : Nat)
    (ho : o.op = .call { callee := .builtin .append, args := #[s, x], argTypes := #[t, t] })
    (ht : P.underlying t = some (.slice e)) (hinfo : (P.info? e).map (fun i => (i.zero, i.size, i.bytes)) = some (some (.int k 0), 1, bytes)) (hb0 : 0 < bytes)
    (v : Value) (xs ys : List Int) (ad : Addr) (m c : Nat) (hs : a.eval s = v) (hx : a.eval x = .slice (some ad) m c) (hm : 0 < m)
    (HO : W.ownsRow base e 1 v xs.length (nums k xs)) (HR : Reads W k (some ad) m ys) (hbase : base ≤ W.heap.size) (hl : (xs.length + m) * bytes ≤ 140737488355328)
    (h : ∀ v1 w1, w1.ownsRow base e 1 v1 (xs ++ ys).length (nums k (xs ++ ys)) → W.grownBy w1 v.ownBlock → (v1.ownBlock = v.ownBlock ∨ (v1.ownBlock = some W.heap.size ∧ W.grownBy w1 none)) → K (a.put o.dst v1) w1) :
    o.wp P a W K Q := by
  obtain ⟨v1, w1, hr, hown, hg, hat⟩ := run_append_row (P := P) (W := W) base t o.type e k bytes ht hinfo hb0 v xs ys (some ad) m c HO HR hbase hl
  have hat2 : v1.ownBlock = v.ownBlock ∨ (v1.ownBlock = some W.heap.size ∧ W.grownBy w1 none) := hat.imp id (fun h => ⟨h, append_far ht hinfo HO HR hm hl hb0 hr h⟩)
  unfold Oper.wp execOp
  simp only [ho, resolve, invoke, builtin, Sem.run_bind, Sem.run_pure, Result.andThen_ok, List.map_toArray, List.map_cons, List.map_nil, hs, hx, hr]
  exact h v1 w1 hown hg hat2
/-- The law at a plain region's list. -/
theorem append_row_far {P : Program} {ops : Array Oper} {rest : List Oper} {o : Oper} {a : Act} {Q : Exit → Act → World → Prop} {W : World} (base : Nat) (hgd : o.guard = none) (s x : Operand) (t e : TypeId) (k : IntKind) (bytes : Nat)
    (ho : o.op = .call { callee := .builtin .append, args := #[s, x], argTypes := #[t, t] })
    (ht : P.underlying t = some (.slice e)) (hinfo : (P.info? e).map (fun i => (i.zero, i.size, i.bytes)) = some (some (.int k 0), 1, bytes)) (hb0 : 0 < bytes)
    (v : Value) (xs ys : List Int) (ad : Addr) (m c : Nat) (hs : a.eval s = v) (hx : a.eval x = .slice (some ad) m c) (hm : 0 < m)
    (HO : W.ownsRow base e 1 v xs.length (nums k xs)) (HR : Reads W k (some ad) m ys) (hbase : base ≤ W.heap.size) (hl : (xs.length + m) * bytes ≤ 140737488355328)
    (h : ∀ v1 w1, w1.ownsRow base e 1 v1 (xs ++ ys).length (nums k (xs ++ ys)) → W.grownBy w1 v.ownBlock → (v1.ownBlock = v.ownBlock ∨ (v1.ownBlock = some W.heap.size ∧ W.grownBy w1 none)) → wpList P ops Q rest (a.put o.dst v1) w1) :
    wpList P ops Q (o :: rest) a W := by
  refine wpList_plain hgd fun K hK => ?_
  exact wp_append_far base s x t e k bytes ho ht hinfo hb0 v xs ys ad m c hs hx hm HO HR hbase hl fun v1 w1 h1 h2 h3 => hK _ _ (h v1 w1 h1 h2 h3)
end Go.Proofs.YtmoakgkoahjijaaGreatDoor

/- A region that draws its order: ahead of operation k all only read, or call what leaves the world within a class; from k on all go in one order. One walk serves every order: plainly, and under a fence. -/
set_option linter.unusedVariables false
set_option linter.unusedSimpArgs false
namespace Go.Proofs.YtmoakgkoahjijaaGreatDoor
open Go.RowKit

section
variable {P : Program} {ops : Array Oper} {md : Region.Mode} {C : World → Prop}

/-- Whatever order is picked, till the head is through. -/
def anyHead (P : Program) (md : Region.Mode) (ops : Array Oper) (C : World → Prop) (k : Nat) (L : Array Bool → Act → Prop) : Nat → Array Bool → Act → Prop
  | 0, listed, a => L listed a
  | f + 1, listed, a => Region.ready md ops listed ≠ [] ∧ ∀ i ∈ Region.ready md ops listed, i < k ∧ qOp P ops C i (anyHead P md ops C k L f (listed.setIfInBounds i true)) a

theorem any_of_head {k g : Nat} {L : Array Bool → Act → Prop} {Q' : Exit → Act → World → Prop} (hL : ∀ listed a w, C w → L listed a → wpAny P md ops Q' g listed a w) :
    ∀ (f : Nat) (listed : Array Bool) (a : Act) (w : World), C w → anyHead P md ops C k L f listed a → wpAny P md ops Q' (f + g) listed a w
  | 0, listed, a, w, hw, h => by rw [Nat.zero_add]; exact hL _ _ _ hw h
  | f + 1, listed, a, w, hw, h => by
    rw [show f + 1 + g = (f + g) + 1 by omega]
    exact ⟨fun h0 => absurd h0 h.1, fun i hi => wpOp_of_qOp hw (fun a' w' hw' h' => any_of_head hL f _ a' w' hw' h') (h.2 i hi).2⟩

theorem head_first {n i : Nat} {oi : Oper} {v : Value} {L : Array Bool → Act → Prop} (hi : ops[i]? = some oi) (hsel : ∀ (j : Nat) (o : Oper) cs b, ops[j]? = some o → o.op ≠ .select cs b)
    (hs : Region.sinkB md ops n = true) (hc : Region.chainB md ops n = true) (hn : n < ops.size) (hin : i < n)
    (hdone : ∀ listed a, L listed a → ∀ j ∈ Region.ready md ops listed, n ≤ j) :
    ∀ (f : Nat) (listed : Array Bool) (a : Act), HeadInv md ops n listed →
      (∀ j oj, ops[j]? = some oj → j ≠ i → listed.getD j true = false → (∀ e ∈ oj.after, Region.binds md e = true → e.on ≠ i) → oi.apart ops oj = true) →
      i ∈ Region.ready md ops listed → YieldsIn P ops C oi v a →
      anyHead P md ops C n L f (listed.setIfInBounds i true) (a.put oi.dst v) → anyHead P md ops C n L (f + 1) listed a := by
  intro f
  induction f with
  | zero =>
    intro listed a inv _ hr hy H
    have hun := (mem_ready.1 hr).1
    refine ⟨fun h => (by rw [h] at hr; cases hr), fun j hj => ?_⟩
    have hjn : j < n := (Nat.lt_or_ge j n).elim id fun h => absurd hj (tail_waits hs hc hn inv _ i rfl hin hun j h)
    refine ⟨hjn, ?_⟩
    by_cases hji : j = i
    · subst hji; exact hy.qOp hi H
    · have := hdone _ _ H j (ready_mono hj hji)
      omega
  | succ f ih =>
    intro listed a inv hfree hr hy H
    have hun := (mem_ready.1 hr).1
    refine ⟨fun h => (by rw [h] at hr; cases hr), fun j hj => ?_⟩
    have hjn : j < n := (Nat.lt_or_ge j n).elim id fun h => absurd hj (tail_waits hs hc hn inv _ i rfl hin hun j h)
    refine ⟨hjn, ?_⟩
    by_cases hji : j = i
    · subst hji; exact hy.qOp hi H
    · have h1 := (H.2 j (ready_mono hj hji)).2
      obtain ⟨hjun, oj, hoj, hall⟩ := mem_ready.1 hj
      have hnot : ∀ e ∈ oj.after, Region.binds md e = true → e.on ≠ i := fun e he hb heq => by
        have h1 := hall e he hb
        rw [heq, getD_both hun] at h1
        cases h1
      have h2 := qOp_put hoj (hfree j oj hoj hji hjun hnot) (fun cs b => hsel i oi cs b hi) (fun cs b => hsel j oj cs b hoj) hy h1
      have hfree' : ∀ k ok, ops[k]? = some ok → k ≠ i → (listed.setIfInBounds j true).getD k true = false →
          (∀ e ∈ ok.after, Region.binds md e = true → e.on ≠ i) → oi.apart ops ok = true := fun k ok hk hki hun hno => by
        refine hfree k ok hk hki ?_ hno
        by_cases hjk : j = k
        · subst hjk; exact hjun
        · rw [getD_set_ne true hjk] at hun; exact hun
      refine qOp_mono (fun a' h3 => ih (listed.setIfInBounds j true) a' (inv.set hj hjn) hfree' (ready_mono hr (Ne.symm hji)) h3.1 ?_) h2
      rw [Array.setIfInBounds_comm _ _ hji]
      exact h3.2

theorem head_lex {n g : Nat} {Lq : Act → Prop} (hsel : Region.noSelect ops = true) (hs : Region.sinkB md ops n = true) (hc : Region.chainB md ops n = true) (hn : n < ops.size) :
    ∀ (l : List Oper) (k : Nat) (listed : Array Bool) (a : Act), (∀ j, j < l.length → l[j]? = ops[k + j]?) → k + l.length = n → HeadInv md ops n listed →
    Region.lexHead md ops g l.length k listed = true → wpQuiet P ops C Lq l a →
    anyHead P md ops C n (fun listed' a' => Region.seqB md ops g n listed' = true ∧ Lq a') l.length listed a
  | [], k, listed, a, _, hk, _, hB, h => by
    have : k = n := by simpa using hk
    subst this
    exact ⟨by simpa [Region.lexHead] using hB, h⟩
  | o :: l, k, listed, a, hl, hk, inv, hB, h => by
    have h0 : ops[k]? = some o := by simpa using (hl 0 (by simp)).symm
    simp only [List.length_cons, Region.lexHead, Bool.and_eq_true] at hB
    obtain ⟨⟨hr, hf⟩, hB'⟩ := hB
    have hkn : k < n := by simp only [List.length_cons] at hk; omega
    have hr' : k ∈ Region.ready md ops listed := by simpa using hr
    have hst : qOp P ops C k (wpQuiet P ops C Lq l) a := by unfold qOp; simp only [h0]; exact h
    obtain ⟨v, hy, hK⟩ := yieldsIn_of_qOp h0 hst
    exact head_first h0 (Region.noSelect_spec hsel) hs hc hn hkn (fun listed' a' hL => seqB_ready hL.1) l.length listed a inv (Region.free_spec h0 hf) hr' hy
      (head_lex hsel hs hc hn l (k + 1) _ _ (fun j hj => by have := hl (j + 1) (by simp; omega); simpa [Nat.add_assoc, Nat.add_comm 1 j] using this) (by simp only [List.length_cons] at hk; omega) (inv.set hr' hkn) hB' hK)

theorem head_all {l : List Oper} {a : Act} {Lq : Act → Prop} (k : Nat) (hB : Region.lexTailB .any l.toArray k = true) (h : wpQuiet P l.toArray C Lq (l.take k) a) :
    k < l.length ∧ anyHead P .any l.toArray C k (fun listed' a' => Region.seqB .any l.toArray (l.length - k) k listed' = true ∧ Lq a') k (Array.replicate l.toArray.size false) a := by
  simp only [Region.lexTailB, Bool.and_eq_true, decide_eq_true_eq] at hB
  obtain ⟨⟨⟨⟨hsel, hn⟩, hs⟩, hc⟩, hlex⟩ := hB
  have hn' : k < l.length := by simpa using hn
  have htl : (l.take k).length = k := by simp; omega
  have inv0 : HeadInv .any l.toArray k (Array.replicate l.toArray.size false) :=
    ⟨by simp, fun j oj _ hl => (by rw [getD_replicate_false] at hl; cases hl), fun t _ ht => getD_in (by simpa using ht) (getD_replicate_false _ _)⟩
  have H := head_lex (md := .any) (C := C) (g := l.toArray.size - k) hsel hs hc hn (l.take k) 0 _ a (fun j hj => by
    have hj' : j < k := by rw [htl] at hj; exact hj
    simp [hj']) (by simpa using htl) inv0 (by rw [htl]; exact hlex) h
  rw [htl, List.size_toArray] at H
  exact ⟨hn', by simpa using H⟩

/-- Plainly. -/
theorem region_class_tail {id : Nat} {Q : Exit → Act → World → Prop} {a : Act} {w : World} {l : List Oper} (C : World → Prop) (k : Nat) (hm : P.follows .mixedOrders = true) (hB : Region.lexTailB .any l.toArray k = true) (hC : C w.drew)
    (h : wpQuiet P l.toArray C (fun a' => ∀ w', C w' → wpList P l.toArray Q (l.drop k) a' w') (l.take k) a) : (Code.region id l.toArray true).wp P Q a w := by
  obtain ⟨hn, H⟩ := head_all k hB h
  refine wp_region_any hm ?_
  have hdl : (l.drop k).length = l.length - k := by simp
  have := any_of_head (Q' := Q) (g := l.length - k) (fun listed a' w' hw' hL => by
    have := wpAny_of_seq (md := .any) (Q' := Q) (l.drop k) k listed a' w' (fun j => by simp [List.getElem?_drop]) (by rw [hdl]; exact hL.1) (hL.2 w' hw')
    rwa [hdl] at this) _ _ _ w.drew hC H
  rw [show k + (l.length - k) = l.toArray.size by simp; omega] at this
  exact this

/-! Under a fence that lets all in. -/
variable {F : Fence} {n : Nat}
structure Lets (F : Fence) (n : Nat) (P : Program) : Prop where
  fn : ∀ f, F.fn f
  depth : F.depth = none
  calls : ∀ f args w R, Calls P f args w R → CallsIn F (n - 1) P f args w R
theorem lets_wide : Lets Fence.wide n P := ⟨fun _ => trivial, rfl, fun _ _ _ _ h => callsIn_wide.2 h⟩
theorem lets_round (l : Nat) : Lets (Fence.wide.inRound l) n P := ⟨fun _ => trivial, rfl, fun _ _ _ _ h => CallsIn.inRound l (callsIn_wide.2 h)⟩

theorem wpIn_of_quiet {o : Oper} {a : Act} {K : Act → Prop} {K' : Act → World → Prop} {Q' : Exit → Act → World → Prop} {w : World} (hF : Lets F n P) (hd : ∀ c, o.op ≠ .defer c) (hw : C w) (h : ∀ a w', C w' → K a → K' a w') (hh : o.quiet P a C K) : o.wpIn F n P a w K' Q' := by
  obtain ⟨v, h1, h2⟩ := hh
  have h3 := h1 w hw
  unfold Oper.quietAt at h3
  refine ⟨fun _ _ => hF.fn _, ?_⟩
  rw [Oper.semAt_eq _ _ _ hd]
  generalize (execOp a.eval o).run P w = r at *
  cases r with
  | ok x w' =>
    cases x <;> simp only [Oper.quietUpon] at h3 <;> simp only [Oper.uponIn]
    case value u =>
      obtain ⟨e1, e2⟩ := h3
      rw [e1, e2]
      exact h _ _ hw h2
    case skip =>
      obtain ⟨e1, e2⟩ := h3
      rw [e1, ← e2]
      exact h _ _ hw h2
    case enter f args =>
      obtain ⟨e1, hc⟩ := h3
      rw [e1]
      refine ⟨fun hs => (by rw [hF.depth] at hs; cases hs), ?_⟩
      refine CallsIn.mono (hF.calls _ _ _ _ hc) ?_
      rintro e w'' ⟨rfl, hw''⟩
      exact h _ _ hw'' h2
  | halt x w' => simp only [Oper.quietUpon] at h3

theorem wpOpIn_of_qOp {i : Nat} {a : Act} {K : Act → Prop} {K' : Act → World → Prop} {Q' : Exit → Act → World → Prop} {w : World} (hF : Lets F n P) (hd : ∀ (j : Nat) o, ops[j]? = some o → ∀ c, o.op ≠ .defer c) (hC : C w) (h : ∀ a w', C w' → K a → K' a w') (hh : qOp P ops C i K a) : wpOpIn F n P ops Q' i K' a w := by
  unfold qOp at hh
  unfold wpOpIn
  split
  · rename_i ho; simp only [ho] at hh; exact h _ _ hC hh
  · rename_i o ho
    simp only [ho] at hh
    split
    · rename_i hw; simp only [hw, if_true] at hh; exact wpIn_of_quiet hF (hd i o ho) hC h hh
    · rename_i hw; simp only [hw] at hh; exact ⟨fun _ _ => hF.fn _, h _ _ hC hh⟩

theorem anyIn_of_head {k g : Nat} {L : Array Bool → Act → Prop} {Q' : Exit → Act → World → Prop} (hF : Lets F n P) (hd : ∀ (j : Nat) o, ops[j]? = some o → ∀ c, o.op ≠ .defer c) (hL : ∀ listed a w, C w → L listed a → wpAnyIn F n P md ops Q' g listed a w) :
    ∀ (f : Nat) (listed : Array Bool) (a : Act) (w : World), C w → anyHead P md ops C k L f listed a → wpAnyIn F n P md ops Q' (f + g) listed a w
  | 0, listed, a, w, hw, h => by rw [Nat.zero_add]; exact hL _ _ _ hw h
  | f + 1, listed, a, w, hw, h => by
    rw [show f + 1 + g = (f + g) + 1 by omega]
    exact ⟨fun h0 => absurd h0 h.1, fun i hi => wpOpIn_of_qOp hF hd hw (fun a' w' hw' h' => anyIn_of_head hF hd hL f _ a' w' hw' h') (h.2 i hi).2⟩

theorem anyIn_of_seq {Q' : Exit → Act → World → Prop} : ∀ (l : List Oper) (k : Nat) (listed : Array Bool) (a : Act) (w : World), (∀ j, l[j]? = ops[k + j]?) →
    Region.seqB md ops l.length k listed = true → wpListIn F n P ops Q' l a w → wpAnyIn F n P md ops Q' l.length listed a w
  | [], _, _, _, _, _, hB, h => ⟨by simpa [Region.seqB] using hB, h⟩
  | o :: l, k, listed, a, w, hl, hB, h => by
    have h0 : ops[k]? = some o := by simpa using (hl 0).symm
    simp only [List.length_cons, Region.seqB, Bool.and_eq_true, decide_eq_true_eq] at hB
    refine ⟨fun h1 => (by rw [hB.1] at h1; cases h1), fun i hi => ?_⟩
    rw [hB.1] at hi
    have hik : i = k := by simpa using hi
    subst hik
    have hw : wpOpIn F n P ops Q' i (wpListIn F n P ops Q' l) a w := by unfold wpOpIn; simp only [h0]; exact h
    exact wpOpIn_mono (fun a' w' h' => anyIn_of_seq l (i + 1) _ a' w' (fun j => by have := hl (j + 1); simpa [Nat.add_assoc, Nat.add_comm 1 j] using this) hB.2 h') hw

def noDefer (l : List Oper) : Bool := l.all fun o => match o.op with | .defer _ => false | _ => true
theorem noDefer_spec {l : List Oper} (h : noDefer l = true) : ∀ (j : Nat) o, l.toArray[j]? = some o → ∀ c, o.op ≠ .defer c := by
  intro j o ho c e
  have hm : o ∈ l := by simpa using Array.mem_of_getElem? ho
  have := List.all_eq_true.1 h o hm
  simp [e] at this

theorem regionIn_class_tail {id : Nat} {Q : Exit → Act → World → Prop} {a : Act} {w : World} {l : List Oper} (C : World → Prop) (k : Nat) (hF : Lets F n P) (hm : P.follows .mixedOrders = true) (hd : noDefer l = true) (hB : Region.lexTailB .any l.toArray k = true) (hC : C w.drew)
    (h : wpQuiet P l.toArray C (fun a' => ∀ w', C w' → wpListIn F n P l.toArray Q (l.drop k) a' w') (l.take k) a) : (Code.region id l.toArray true).wpIn F n P Q a w := by
  obtain ⟨hn, H⟩ := head_all k hB h
  refine wpIn_region_any hm ?_
  have hdl : (l.drop k).length = l.length - k := by simp
  have := anyIn_of_head (Q' := Q) (g := l.length - k) hF (noDefer_spec hd) (fun listed a' w' hw' hL => by
    have := anyIn_of_seq (F := F) (n := n) (P := P) (md := .any) (Q' := Q) (l.drop k) k listed a' w' (fun j => by simp [List.getElem?_drop]) (by rw [hdl]; exact hL.1) (hL.2 w' hw')
    rwa [hdl] at this) _ _ _ w.drew hC H
  rw [show k + (l.length - k) = l.toArray.size by simp; omega] at this
  exact this
/-- All only read, or call within the class. -/
theorem regionIn_class {id : Nat} {Q : Exit → Act → World → Prop} {a : Act} {w : World} {l : List Oper} (C : World → Prop) (hF : Lets F n P) (hm : P.follows .mixedOrders = true) (hd : noDefer l = true) (hB : Region.lexB .any l.toArray = true) (hC : C w.drew)
    (h : wpQuiet P l.toArray C (fun a' => ∀ w', C w' → Q .normal a' w') l a) : (Code.region id l.toArray true).wpIn F n P Q a w := by
  refine wpIn_region_any hm ?_
  simp only [Region.lexB, Bool.and_eq_true] at hB
  have H := wpAnyQ_lex (P := P) (C := C) (md := .any) hB.1 l 0 (Array.replicate l.toArray.size false) a (by simp) (by simpa using hB.2) h
  have key : ∀ (fuel : Nat) (listed : Array Bool) (a : Act) (w : World), C w → wpAnyQ P .any l.toArray C (fun a' => ∀ w', C w' → Q .normal a' w') fuel listed a → wpAnyIn F n P .any l.toArray Q fuel listed a w := by
    intro fuel
    induction fuel with
    | zero => intro listed a w hw h; exact ⟨h.1, h.2 w hw⟩
    | succ fuel ih => intro listed a w hw h; exact ⟨fun h0 => h.1 h0 w hw, fun i hi => wpOpIn_of_qOp hF (noDefer_spec hd) hw (fun a' w' hw' h' => ih _ a' w' hw' h') (h.2 i hi)⟩
  refine key _ _ _ _ hC ?_
  simpa using H
end
end Go.Proofs.YtmoakgkoahjijaaGreatDoor

/- A region that draws its order: ahead of operation k the operations that only read (under a condition S) are taken first, the others are gone through as they may come up; from k on all go in one order. -/
set_option linter.unusedVariables false
set_option linter.unusedSimpArgs false
namespace Go.Proofs.YtmoakgkoahjijaaGreatDoor
open Go.RowKit

section
variable {P : Program} {ops : Array Oper} {Q : Exit → Act → World → Prop} {md : Region.Mode} {S : World → Prop}

def headH (P : Program) (md : Region.Mode) (ops : Array Oper) (Q : Exit → Act → World → Prop) (S : World → Prop) (k : Nat) (L : Array Bool → Act → World → Prop) : Nat → Array Bool → Act → World → Prop
  | 0, listed, a, w => L listed a w
  | f + 1, listed, a, w => Region.ready md ops listed ≠ [] ∧ ∀ i ∈ Region.ready md ops listed, i < k ∧ wpOp P ops Q i (fun a' w' => S w' ∧ headH P md ops Q S k L f (listed.setIfInBounds i true) a' w') a w

theorem any_of_headH {k g : Nat} {L : Array Bool → Act → World → Prop} (hL : ∀ listed a w, L listed a w → wpAny P md ops Q g listed a w) :
    ∀ (f : Nat) (listed : Array Bool) (a : Act) (w : World), headH P md ops Q S k L f listed a w → wpAny P md ops Q (f + g) listed a w
  | 0, listed, a, w, h => by rw [Nat.zero_add]; exact hL _ _ _ h
  | f + 1, listed, a, w, h => by
    rw [show f + 1 + g = (f + g) + 1 by omega]
    exact ⟨fun h0 => absurd h0 h.1, fun i hi => wpOp_mono (fun a' w' h' => any_of_headH hL f _ a' w' h'.2) (h.2 i hi).2⟩

theorem headH_first {n i : Nat} {oi : Oper} {v : Value} {L : Array Bool → Act → World → Prop} (hi : ops[i]? = some oi) (hsel : ∀ (j : Nat) (o : Oper) cs b, ops[j]? = some o → o.op ≠ .select cs b)
    (hs : Region.sinkB md ops n = true) (hc : Region.chainB md ops n = true) (hn : n < ops.size) (hin : i < n)
    (hdone : ∀ listed a w, L listed a w → ∀ j ∈ Region.ready md ops listed, n ≤ j) (hQ : ∀ c a w, Q (.panic c) (a.put oi.dst v) w → Q (.panic c) a w) :
    ∀ (f : Nat) (listed : Array Bool) (a : Act) (w : World), HeadInv md ops n listed →
      (∀ j oj, ops[j]? = some oj → j ≠ i → listed.getD j true = false → (∀ e ∈ oj.after, Region.binds md e = true → e.on ≠ i) → oi.apart ops oj = true) →
      i ∈ Region.ready md ops listed → YieldsIf P ops S oi v a → S w →
      headH P md ops Q S n L f (listed.setIfInBounds i true) (a.put oi.dst v) w → headH P md ops Q S n L (f + 1) listed a w := by
  intro f
  induction f with
  | zero =>
    intro listed a w inv _ hr hy hS H
    have hun := (mem_ready.1 hr).1
    refine ⟨fun h => (by rw [h] at hr; cases hr), fun j hj => ?_⟩
    have hjn : j < n := (Nat.lt_or_ge j n).elim id fun h => absurd hj (tail_waits hs hc hn inv _ i rfl hin hun j h)
    refine ⟨hjn, ?_⟩
    by_cases hji : j = i
    · subst hji; exact hy.wpOp hi hS ⟨hS, H⟩
    · have := hdone _ _ _ H j (ready_mono hj hji)
      omega
  | succ f ih =>
    intro listed a w inv hfree hr hy hS H
    have hun := (mem_ready.1 hr).1
    refine ⟨fun h => (by rw [h] at hr; cases hr), fun j hj => ?_⟩
    have hjn : j < n := (Nat.lt_or_ge j n).elim id fun h => absurd hj (tail_waits hs hc hn inv _ i rfl hin hun j h)
    refine ⟨hjn, ?_⟩
    by_cases hji : j = i
    · subst hji; exact hy.wpOp hi hS ⟨hS, H⟩
    · have h1 := (H.2 j (ready_mono hj hji)).2
      obtain ⟨hjun, oj, hoj, hall⟩ := mem_ready.1 hj
      have hnot : ∀ e ∈ oj.after, Region.binds md e = true → e.on ≠ i := fun e he hb heq => by
        have h1 := hall e he hb
        rw [heq, getD_both hun] at h1
        cases h1
      have h2 := wpOp_putIf hoj (hfree j oj hoj hji hjun hnot) (fun cs b => hsel i oi cs b hi) (fun cs b => hsel j oj cs b hoj) hQ hy h1
      have hfree' : ∀ k ok, ops[k]? = some ok → k ≠ i → (listed.setIfInBounds j true).getD k true = false →
          (∀ e ∈ ok.after, Region.binds md e = true → e.on ≠ i) → oi.apart ops ok = true := fun k ok hk hki hun hno => by
        refine hfree k ok hk hki ?_ hno
        by_cases hjk : j = k
        · subst hjk; exact hjun
        · rw [getD_set_ne true hjk] at hun; exact hun
      refine wpOp_mono (fun a' w' h3 => ⟨h3.2.1, ih (listed.setIfInBounds j true) a' w' (inv.set hj hjn) hfree' (ready_mono hr (Ne.symm hji)) h3.1 h3.2.1 ?_⟩) h2
      rw [Array.setIfInBounds_comm _ _ hji]
      exact h3.2.2

/-- The walk of the head: what floats is taken first, the rest comes up one by one. -/
inductive Pl where
  | float (i : Nat)
  | one (i : Nat)
/-- Is the plan in order? -/
def Pl.okB (md : Region.Mode) (ops : Array Oper) (k g : Nat) : List Pl → Array Bool → Bool
  | [], listed => Region.seqB md ops g k listed
  | .float i :: l, listed => decide (i < k) && (Region.ready md ops listed).contains i && Region.free md ops listed i && Pl.okB md ops k g l (listed.setIfInBounds i true)
  | .one i :: l, listed => decide (i < k) && decide (Region.ready md ops listed = [i]) && Pl.okB md ops k g l (listed.setIfInBounds i true)
/-- What is to be shown. -/
def Pl.wp (P : Program) (ops : Array Oper) (Q : Exit → Act → World → Prop) (S : World → Prop) (K : Act → World → Prop) : List Pl → Act → World → Prop
  | [], a, w => K a w
  | .float i :: l, a, w => match ops[i]? with
    | none => False
    | some o => ∃ v, YieldsIf P ops S o v a ∧ (∀ c a w, Q (.panic c) (a.put o.dst v) w → Q (.panic c) a w) ∧ Pl.wp P ops Q S K l (a.put o.dst v) w
  | .one i :: l, a, w => match ops[i]? with
    | none => False
    | some o => if Region.wanted o (yielded ops a.tmps) = true then Oper.wp P o a w (fun a' w' => S w' ∧ Pl.wp P ops Q S K l a' w') Q else S w ∧ Pl.wp P ops Q S K l (a.put o.dst undef) w

theorem Pl.head {n g : Nat} {K : Act → World → Prop} (hsel : Region.noSelect ops = true) (hs : Region.sinkB md ops n = true) (hc : Region.chainB md ops n = true) (hn : n < ops.size) :
    ∀ (l : List Pl) (listed : Array Bool) (a : Act) (w : World), HeadInv md ops n listed → Pl.okB md ops n g l listed = true → S w → Pl.wp P ops Q S K l a w →
      headH P md ops Q S n (fun listed' a' w' => Region.seqB md ops g n listed' = true ∧ K a' w') l.length listed a w
  | [], listed, a, w, inv, hB, hS, h => ⟨hB, h⟩
  | .float i :: l, listed, a, w, inv, hB, hS, h => by
    simp only [Pl.okB, Bool.and_eq_true, decide_eq_true_eq] at hB
    obtain ⟨⟨⟨hin, hr⟩, hf⟩, hB'⟩ := hB
    simp only [Pl.wp] at h
    have hr' : i ∈ Region.ready md ops listed := by simpa using hr
    cases ho : ops[i]? with
    | none => rw [ho] at h; exact h.elim
    | some o =>
      rw [ho] at h
      obtain ⟨v, hy, hQ, hK⟩ := h
      exact headH_first ho (Region.noSelect_spec hsel) hs hc hn hin (fun listed' a' w' hL => seqB_ready hL.1) hQ l.length listed a w inv (Region.free_spec ho hf) hr' hy hS
        (Pl.head hsel hs hc hn l _ _ _ (inv.set hr' hin) hB' hS hK)
  | .one i :: l, listed, a, w, inv, hB, hS, h => by
    simp only [Pl.okB, Bool.and_eq_true, decide_eq_true_eq] at hB
    obtain ⟨⟨hin, hr⟩, hB'⟩ := hB
    simp only [Pl.wp] at h
    have hr' : i ∈ Region.ready md ops listed := by rw [hr]; exact List.mem_singleton.2 rfl
    refine ⟨by rw [hr]; simp, fun j hj => ?_⟩
    rw [hr] at hj
    obtain rfl := List.mem_singleton.1 hj
    refine ⟨hin, ?_⟩
    unfold wpOp
    cases ho : ops[j]? with
    | none => rw [ho] at h; exact h.elim
    | some o =>
      rw [ho] at h
      simp only at h ⊢
      split
      · rename_i hw
        rw [if_pos hw] at h
        exact .inl (Oper.wp_mono (fun a' w' h' => ⟨h'.1, Pl.head hsel hs hc hn l _ _ _ (inv.set hr' hin) hB' h'.1 h'.2⟩) h)
      · rename_i hw
        rw [if_neg hw] at h
        exact ⟨h.1, Pl.head hsel hs hc hn l _ _ _ (inv.set hr' hin) hB' h.1 h.2⟩

def Pl.allB (ops : Array Oper) (k : Nat) (l : List Pl) : Bool :=
  Region.noSelect ops && decide (k < ops.size) && Region.sinkB .any ops k && Region.chainB .any ops k && decide (l.length = k) && Pl.okB .any ops k (ops.size - k) l (Array.replicate ops.size false)

theorem any_float {a : Act} {w : World} {l : List Oper} (S : World → Prop) (k : Nat) (pl : List Pl) (hB : Pl.allB l.toArray k pl = true) (hS : S w)
    (h : Pl.wp P l.toArray Q S (fun a' w' => wpList P l.toArray Q (l.drop k) a' w') pl a w) : wpAny P .any l.toArray Q l.toArray.size (Array.replicate l.toArray.size false) a w := by
  simp only [Pl.allB, Bool.and_eq_true, decide_eq_true_eq] at hB
  obtain ⟨⟨⟨⟨⟨hsel, hn⟩, hs⟩, hc⟩, hl⟩, hok⟩ := hB
  have hn' : k < l.length := by simpa using hn
  have hdl : (l.drop k).length = l.length - k := by simp
  have inv0 : HeadInv .any l.toArray k (Array.replicate l.toArray.size false) :=
    ⟨by simp, fun j oj _ hl => (by rw [getD_replicate_false] at hl; cases hl), fun t _ ht => getD_in (by simpa using ht) (getD_replicate_false _ _)⟩
  have H := Pl.head (P := P) (Q := Q) (S := S) hsel hs hc hn pl _ a w inv0 hok hS h
  have := any_of_headH (g := l.length - k) (fun listed a' w' hL => by
    have := wpAny_of_seq (P := P) (md := .any) (Q' := Q) (l.drop k) k listed a' w' (fun j => by simp [List.getElem?_drop]) (by rw [hdl]; simpa using hL.1) hL.2
    rwa [hdl] at this) _ _ _ _ H
  rw [hl, show k + (l.length - k) = l.toArray.size by simp; omega] at this
  exact this

theorem Pl.wp_one {K : Act → World → Prop} {i : Nat} {l : List Pl} {a : Act} {w : World} {o : Oper} (ho : ops[i]? = some o) (hg : o.guard = none) (h : Oper.wp P o a w (fun a' w' => S w' ∧ Pl.wp P ops Q S K l a' w') Q) : Pl.wp P ops Q S K (.one i :: l) a w := by
  simp only [Pl.wp, ho]
  rw [if_pos (by simp [Region.wanted, hg])]
  exact h
theorem Pl.wp_value {K : Act → World → Prop} {i : Nat} {l : List Pl} {a : Act} {w : World} {o : Oper} (ho : ops[i]? = some o) (hg : o.guard = none) (v : Value) (w1 : World) (hr : (execOp a.eval o).run P w = .ok (.value v) w1) (hS : S w1) (h : Pl.wp P ops Q S K l (a.put o.dst v) w1) : Pl.wp P ops Q S K (.one i :: l) a w := by
  refine Pl.wp_one ho hg ?_
  unfold Oper.wp
  rw [hr]
  exact ⟨hS, h⟩
theorem Pl.wp_skip {K : Act → World → Prop} {i : Nat} {l : List Pl} {a : Act} {w : World} {o : Oper} (ho : ops[i]? = some o) (hg : o.guard = none) (w1 : World) (hr : (execOp a.eval o).run P w = .ok .skip w1) (hS : S w1) (h : Pl.wp P ops Q S K l (a.put o.dst undef) w1) : Pl.wp P ops Q S K (.one i :: l) a w := by
  refine Pl.wp_one ho hg ?_
  unfold Oper.wp
  rw [hr]
  exact ⟨hS, h⟩
theorem Pl.wp_float {K : Act → World → Prop} {i : Nat} {l : List Pl} {a : Act} {w : World} {o : Oper} (ho : ops[i]? = some o) (hg : o.guard = none) (v : Value) (hv : ∀ U, S U → (execOp a.eval o).run P U = .ok (.value v) U)
    (hQ : ∀ c a w, Q (.panic c) (a.put o.dst v) w → Q (.panic c) a w) (h : Pl.wp P ops Q S K l (a.put o.dst v) w) : Pl.wp P ops Q S K (.float i :: l) a w := by
  simp only [Pl.wp, ho]
  exact ⟨v, .inl ⟨by simp [Region.wanted, hg], hv⟩, hQ, h⟩
/-- Plainly. -/
theorem region_float {id : Nat} {a : Act} {w : World} {l : List Oper} (S : World → Prop) (k : Nat) (pl : List Pl) (hm : P.follows .mixedOrders = true) (hB : Pl.allB l.toArray k pl = true) (hS : S w.drew)
    (h : Pl.wp P l.toArray Q S (fun a' w' => wpList P l.toArray Q (l.drop k) a' w') pl a w.drew) : (Code.region id l.toArray true).wp P Q a w :=
  wp_region_any hm (any_float S k pl hB hS h)

/-! Under a fence that lets all in. -/
variable {F : Fence} {n : Nat}
structure LetsR (F : Fence) (n : Nat) (P : Program) : Prop extends Lets F n P where
  rows : ∀ row args w R, Rows P row args w R → RowsIn F (n - 1) P row args w R
theorem letsR_wide : LetsR Fence.wide n P := { lets_wide with rows := fun _ _ _ _ h => fun c cs _ => let ⟨v, w', r, s⟩ := h c cs; ⟨v, w', r, stepsIn_wide.2 s⟩ }
theorem letsR_round (l : Nat) : LetsR (Fence.wide.inRound l) n P := { lets_round l with rows := fun _ _ _ _ h => fun c cs _ => let ⟨v, w', r, s⟩ := h c cs; ⟨v, w', r, stepsIn_wide.2 s⟩ }
theorem opIn_of_wp {o : Oper} {a : Act} {w : World} {K K' : Act → World → Prop} (hF : LetsR F n P) (hd : ∀ c, o.op ≠ .defer c) (h : ∀ a w, K a w → K' a w) (hh : o.wp P a w K Q) : o.wpIn F n P a w K' Q := by
  unfold Oper.wp at hh
  refine ⟨fun _ _ => hF.fn _, ?_⟩
  rw [Oper.semAt_eq _ _ _ hd]
  generalize (execOp a.eval o).run P w = r at *
  cases r with
  | ok x w' =>
    cases x <;> simp only [Oper.upon] at hh <;> simp only [Oper.uponIn]
    case enter f args =>
      refine ⟨fun h => (by rw [hF.depth] at h; cases h), hF.calls _ _ _ _ (hh.mono fun e w'' he => ?_)⟩
      cases e <;> first | exact h _ _ he | exact he
    case row row args => exact ⟨fun h => (by rw [hF.depth] at h; cases h), hF.rows _ _ _ _ (hh.mono fun v w'' hk => h _ _ hk)⟩
    all_goals first | exact h _ _ hh | exact hh
  | halt x w' => cases x <;> simp only [Oper.upon] at hh <;> simp only [Oper.uponIn] <;> exact hh
theorem wpOpIn_of_wpOp {i : Nat} {a : Act} {w : World} {K K' : Act → World → Prop} (hF : LetsR F n P) (hd : ∀ (j : Nat) o, ops[j]? = some o → ∀ c, o.op ≠ .defer c) (hQ : ¬ LetsOut Q) (h : ∀ a w, K a w → K' a w) (hh : wpOp P ops Q i K a w) : wpOpIn F n P ops Q i K' a w := by
  unfold wpOp at hh
  unfold wpOpIn
  split
  · rename_i ho; simp only [ho] at hh; exact h _ _ hh
  · rename_i o ho
    simp only [ho] at hh
    split
    · rename_i hw
      simp only [hw, if_true] at hh
      rcases hh with hh | ⟨_, hh⟩
      · exact opIn_of_wp hF (hd i o ho) h hh
      · exact absurd hh hQ
    · rename_i hw
      simp only [hw] at hh
      exact ⟨fun _ _ => hF.fn _, h _ _ hh⟩
theorem anyIn_of_any (hF : LetsR F n P) (hd : ∀ (j : Nat) o, ops[j]? = some o → ∀ c, o.op ≠ .defer c) (hQ : ¬ LetsOut Q) : ∀ (fuel : Nat) (listed : Array Bool) (a : Act) (w : World), wpAny P md ops Q fuel listed a w → wpAnyIn F n P md ops Q fuel listed a w
  | 0, _, _, _, h => h
  | fuel + 1, _, _, _, h => ⟨h.1, fun i hi => wpOpIn_of_wpOp hF hd hQ (fun a' w' => anyIn_of_any hF hd hQ fuel _ a' w') (h.2 i hi)⟩
theorem regionIn_of_any {id : Nat} {a : Act} {w : World} {l0 : List Oper} (hF : LetsR F n P) (hm : P.follows .mixedOrders = true) (hd : noDefer l0 = true) (hQ : ¬ LetsOut Q)
    (h : wpAny P .any l0.toArray Q l0.toArray.size (Array.replicate l0.toArray.size false) a w.drew) : (Code.region id l0.toArray true).wpIn F n P Q a w :=
  wpIn_region_any hm (anyIn_of_any hF (noDefer_spec hd) hQ _ _ _ _ h)
/-- Nothing but the end of the region. -/
def nq (Q : Exit → Act → World → Prop) : Exit → Act → World → Prop
  | .normal, a, w => Q .normal a w
  | _, _, _ => False
theorem regionIn_float {id : Nat} {a : Act} {w : World} {l : List Oper} (S : World → Prop) (k : Nat) (pl : List Pl) (hF : LetsR F n P) (hm : P.follows .mixedOrders = true) (hd : noDefer l = true) (hB : Pl.allB l.toArray k pl = true) (hS : S w.drew)
    (h : ∀ K : Act → World → Prop, (∀ a w, Q .normal a w → K a w) → Pl.wp P l.toArray (nq Q) S (fun a' w' => wpList P l.toArray (nq fun _ => K) (l.drop k) a' w') pl a w.drew) : (Code.region id l.toArray true).wpIn F n P Q a w := by
  refine wpIn_mono (regionIn_of_any (Q := nq Q) hF hm hd (fun ⟨_, _, h⟩ => h) (any_float S k pl hB hS ?_)) (fun e a w h => by cases e <;> first | exact h | exact h.elim)
  exact h (fun a w => Q .normal a w) (fun _ _ h => h)
end
end Go.Proofs.YtmoakgkoahjijaaGreatDoor

/- A book of bytes: the marks; one more list is kept. -/
set_option linter.unusedVariables false
set_option linter.unusedSimpArgs false
namespace Go.Proofs.YtmoakgkoahjijaaGreatDoor
open Go.RowKit

theorem aside' {p : Prop} (h : p) : Aside p := h
theorem flat3_at (ps : List (Value × Value)) (j : Nat) (p : Value × Value) (h : ps[j]? = some p) : (flat3 0 ps)[j * 3]? = some p.1 ∧ (flat3 0 ps)[j * 3 + 1]? = some p.2 ∧ (flat3 0 ps)[j * 3 + 2]? = some (.int .i64 ((j : Int) + 1)) := by
  have h1 := flat3_get ps 0 j p h
  rw [show (((0 : Nat) : Int) + (j : Int) + 1) = (j : Int) + 1 by omega] at h1
  exact h1
theorem mark_any (i : Nat) (hi : i ≤ 1000000000000) (W : World) : Calls Tryz.prog 147 #[.int .i64 ((i : Int) + 1)] W fun e w' => e = .returned (.int .u8 (mark i)) ∧ w' = W := by
  obtain ⟨r, hr⟩ : ∃ r, r = (i + 1) % 250 := ⟨_, rfl⟩
  have hb : r < 250 := by omega
  have m1 : ((i : Int) + 1) % 250 = (r : Int) := by omega
  have m2 : ((i : Int) + 1).tmod 250 = (r : Int) := by rw [Int.tmod_eq_emod_of_nonneg (by omega)]; exact m1
  have HM := aside' (show mark i = 1 + (r : Int) by rw [mark, hr])
  clear hr
  go_enter Tryz.func147, Tryz.ntmps147
  go_wp2
  go_ret
  exact ⟨by rw [HM.out]; rfl, rfl⟩
theorem is_any (i : Nat) (hi : i ≤ 1000000000000) (W : World) : Calls Tryz.prog 177 #[.int .u8 (mark i), .int .i64 ((i : Int) + 1)] W fun e w' => e = .returned (.bool true) ∧ w' = W := by
  obtain ⟨r, hr⟩ : ∃ r, r = (i + 1) % 250 := ⟨_, rfl⟩
  have hb : r < 250 := by omega
  have m1 : ((i : Int) + 1) % 250 = (r : Int) := by omega
  have m2 : ((i : Int) + 1).tmod 250 = (r : Int) := by rw [Int.tmod_eq_emod_of_nonneg (by omega)]; exact m1
  have HM : mark i = 1 + (r : Int) := by rw [mark, hr]
  rw [HM]
  clear hr HM
  go_enter Tryz.func177, Tryz.ntmps177
  go_wp2
  go_ret
  exact ⟨rfl, rfl⟩
theorem infoHB : (Tryz.prog.info? 118).map (fun i => (i.zero, i.size, i.bytes)) = some (some (.agg #[.slice none 0 0, .slice none 0 0, .int .i64 0]), 3, 56) := by kernel_rfl
theorem infoBY : (Tryz.prog.info? 5).map (fun i => (i.zero, i.size, i.bytes)) = some (some (.int .u8 0), 1, 1) := by kernel_rfl
/-- What is there when one more list is kept. -/
def Kept (base b : Nat) (row v : Value) (ps : List (Value × Value)) (F : Nat → Nat → Prop) (Fv : Nat → Prop) (W : World) (e : Ending) (w' : World) : Prop :=
  (∃ u, e = .returned u) ∧ ∃ row', Bk w' base b row' (ps ++ [(v, .slice none 0 0)]) (fun i k => F i k ∨ (i = ps.length ∧ Fv k)) ∧ Foot (fun k => k = b ∨ row.ownBlock = some k) W w' ∧ ∀ k, row'.ownBlock = some k → row.ownBlock = some k ∨ W.heap.size ≤ k
theorem kept_of {W w1 : World} {base b : Nat} {row v v1 : Value} {ps : List (Value × Value)} {F : Nat → Nat → Prop} {Fv : Nat → Prop} {o : Obj} (h : Bk W base b row ps F)
    (h1 : ∀ k, Fv k → base ≤ k ∧ k < W.heap.size ∧ k ≠ b ∧ row.ownBlock ≠ some k) (h2 : ∀ i k, F i k → ¬ Fv k)
    (hown : w1.ownsRow base 118 3 v1 (ps.length + 1) (flat3 0 ps ++ [v, .slice none 0 0, .int .i64 ((ps.length : Int) + 1)]))
    (hg : ((W.setCell ⟨b, 0, none⟩ (.int .i64 ((ps.length : Int) + 1))).alloc o).grownBy w1 row.ownBlock) (hat : v1.ownBlock = row.ownBlock ∨ v1.ownBlock = some (W.heap.size + 1)) :
    ∃ row', Bk (w1.setCell ⟨b, 2, none⟩ v1) base b row' (ps ++ [(v, .slice none 0 0)]) (fun i k => F i k ∨ (i = ps.length ∧ Fv k)) ∧ Foot (fun k => k = b ∨ row.ownBlock = some k) W (w1.setCell ⟨b, 2, none⟩ v1) ∧ ∀ k, row'.ownBlock = some k → row.ownBlock = some k ∨ W.heap.size ≤ k := by
  have hblt : b < W.heap.size := (Array.getElem?_eq_some_iff.1 h.hb).1
  have hs0 : (W.setCell ⟨b, 0, none⟩ (.int .i64 ((ps.length : Int) + 1))).heap.size = W.heap.size := by simp [World.setCell]
  have hb1 := setCell_heap h.hb 0 (.int .i64 ((ps.length : Int) + 1))
  have hb2 := (Below.heap_alloc _ o b (by rw [hs0]; exact hblt)).trans hb1
  have hb3 := (hg.block b (by simp; omega) (fun e => h.rb e.symm)).trans hb2
  have hv1 : ∀ k, v1.ownBlock = some k → row.ownBlock = some k ∨ k = W.heap.size + 1 := by
    intro k hk
    rcases hat with e | e
    · exact .inl (e.symm.trans hk)
    · rw [e] at hk; injection hk with hk; exact .inr hk.symm
  have hvb : v1.ownBlock ≠ some b := fun e => by
    rcases hv1 b e with e' | e'
    · exact h.rb e'
    · omega
  have hft : Foot (fun k => k = b ∨ row.ownBlock = some k) W (w1.setCell ⟨b, 2, none⟩ v1) :=
    ((((Foot.refl _ W).setCell (p := ⟨b, 0, none⟩) (.inl (.inl rfl)) _).alloc o).grown hg (fun k hk => .inl (.inr hk))).setCell (p := ⟨b, 2, none⟩) (.inl (.inl rfl)) _
  have hsz : W.heap.size ≤ (w1.setCell ⟨b, 2, none⟩ v1).heap.size := hft.size
  have he : flat3 0 (ps ++ [(v, .slice none 0 0)]) = flat3 0 ps ++ [v, .slice none 0 0, .int .i64 ((ps.length : Int) + 1)] := by
    rw [flat3_append]
    simp [flat3]
  refine ⟨v1, ⟨?_, ?_, hvb, h.bb, ?_, ?_⟩, hft, fun k hk => (hv1 k hk).imp id (fun e => by omega)⟩
  · rw [setCell_heap hb3 2 v1]
    simp [bookCells]
  · rw [he, List.length_append, List.length_singleton]
    exact own_foot hown ((Foot.refl (fun k => k = b) w1).setCell (p := ⟨b, 2, none⟩) (.inl rfl) v1) (fun k hk e => hvb (e ▸ hk))
  · intro i k hk
    have hx : base ≤ k ∧ k < W.heap.size ∧ k ≠ b ∧ row.ownBlock ≠ some k := by
      rcases hk with hk | ⟨_, hk⟩
      · exact h.fl i k hk
      · exact h1 k hk
    refine ⟨hx.1, by omega, hx.2.2.1, fun e => ?_⟩
    rcases hv1 k e with e' | e'
    · exact hx.2.2.2 e'
    · omega
  · intro i j k hi hj
    rcases hi with hi | ⟨ei, hi⟩ <;> rcases hj with hj | ⟨ej, hj⟩
    · exact h.fd i j k hi hj
    · exact absurd hj (h2 i k hi)
    · exact absurd hi (h2 j k hj)
    · omega
set_option maxRecDepth 100000 in
set_option maxHeartbeats 1600000 in
theorem keep_any (base b : Nat) (row : Value) (ps : List (Value × Value)) (F : Nat → Nat → Prop) (A : Option Addr) (n c : Nat) (Fv : Nat → Prop) (W : World) (h : Bk W base b row ps F) (hN : ps.length ≤ 1000000000)
    (h1 : ∀ k, Fv k → base ≤ k ∧ k < W.heap.size ∧ k ≠ b ∧ row.ownBlock ≠ some k) (h2 : ∀ i k, F i k → ¬ Fv k) :
    Calls Tryz.prog 44 #[.pointer (some ⟨b, 0, none⟩), .slice A n c] W (Kept base b row (.slice A n c) ps F Fv W) := by
  have hbs : base ≤ W.heap.size := Nat.le_of_lt (Nat.lt_of_le_of_lt h.bb (Array.getElem?_eq_some_iff.1 h.hb).1)
  have c0 : W.cell? ⟨b, 0, none⟩ = some (.int .i64 (ps.length : Int)) := cellOf h.hb 0
  have f0 := frozenOf h.hb 0
  obtain ⟨Ar, Lr, cr, rfl, HLr⟩ := own_form h.hr
  have hLr := HLr.out
  subst hLr
  have hb1 := setCell_heap h.hb 0 (.int .i64 ((ps.length : Int) + 1))
  have c2 : (W.setCell ⟨b, 0, none⟩ (.int .i64 ((ps.length : Int) + 1))).cell? ⟨b, 2, none⟩ = some (.slice Ar ps.length cr) := (cellOf hb1 2).trans rfl
  have c3 : (W.setCell ⟨b, 0, none⟩ (.int .i64 ((ps.length : Int) + 1))).cell? ⟨b, 0, none⟩ = some (.int .i64 ((ps.length : Int) + 1)) := (cellOf hb1 0).trans rfl
  have HR1 := aside' (own_foot h.hr ((Foot.refl (fun k => k = b) W).setCell (p := ⟨b, 0, none⟩) (.inl rfl) (.int .i64 ((ps.length : Int) + 1))) (fun k hk e => h.rb (e ▸ hk)))
  have HB1 := aside' hb1
  have H := aside' (And.intro h (And.intro h1 h2))
  have hsz : (W.setCell ⟨b, 0, none⟩ (.int .i64 ((ps.length : Int) + 1))).heap.size = W.heap.size := by simp [World.setCell]
  clear h h1 h2 hb1 HLr
  go_enter Tryz.func44, Tryz.ntmps44
  go_wp2_with fail
  generalize hW1 : W.setCell ⟨b, 0, none⟩ (.int .i64 ((ps.length : Int) + 1)) = W1 at *
  have HC := aside' (Cells.lit W1 118 #[.slice A n c, .slice none 0 0, .int .i64 ((ps.length : Int) + 1)] 1 3 rfl (by intro u hu; simp at hu; rcases hu with rfl | rfl | rfl <;> rfl))
  rw [hsz] at HC
  have hblt : b < W1.heap.size := (Array.getElem?_eq_some_iff.1 HB1.out).1
  have HO := aside' (HR1.out.alloc (.cells #[.slice A n c, .slice none 0 0, .int .i64 ((ps.length : Int) + 1)] 118))
  have HS := aside' (show base ≤ (W1.drew.alloc (.cells #[.slice A n c, .slice none 0 0, .int .i64 ((ps.length : Int) + 1)] 118)).heap.size by simp; omega)
  have ca : (W1.alloc (.cells #[.slice A n c, .slice none 0 0, .int .i64 ((ps.length : Int) + 1)] 118)).drew.cell? ⟨b, 2, none⟩ = some (.slice Ar ps.length cr) := (((Below.refl W1.heap.size W1).alloc (Nat.le_refl _) _).cell (p := ⟨b, 2, none⟩) hblt).trans c2
  have cb : (W1.drew.alloc (.cells #[.slice A n c, .slice none 0 0, .int .i64 ((ps.length : Int) + 1)] 118)).cell? ⟨b, 2, none⟩ = some (.slice Ar ps.length cr) := ca
  have cc : (W1.alloc (.cells #[.slice A n c, .slice none 0 0, .int .i64 ((ps.length : Int) + 1)] 118)).cell? ⟨b, 2, none⟩ = some (.slice Ar ps.length cr) := ca
  go_region_law ((refine step_append_cells base (by rfl) _ _ 31 118 (.agg #[.slice none 0 0, .slice none 0 0, .int .i64 0]) 3 56 (by rfl) Tryz.underlying31 infoHB (by rfl) (by omega) (by omega) (.slice Ar ps.length cr) ps.length (flat3 0 ps) [.slice A n c, .slice none 0 0, .int .i64 ((ps.length : Int) + 1)] _ 1 1 (by rfl) (by rfl) (by exact HO.out) (by exact HC.out) (by exact HS.out) (by omega) ?_; intro v1 w1 hown1 hg1 hat1; obtain ⟨g1, k1, rfl, hgb, hgs, _, _⟩ := own_some hown1 (by omega); have hbk := (hg1.block b (by simp; omega) (fun e => H.out.1.rb e.symm)).trans ((Below.heap_alloc W1 (.cells #[.slice A n c, .slice none 0 0, .int .i64 ((ps.length : Int) + 1)] 118) b hblt).trans HB1.out); have HBK := aside' hbk; have kA : w1.cell? ⟨b, 2, none⟩ = some (.slice Ar ps.length cr) := (cellOf hbk 2).trans rfl; have kf := frozenOf hbk 2; have HG1 := aside' (And.intro hown1 (And.intro hg1 hat1)); clear hbk))
  all_goals go_end0
  all_goals (
    obtain ⟨row', hk1, hk2, hk3⟩ := kept_of (v := .slice A n c) (o := .cells #[.slice A n c, .slice none 0 0, .int .i64 ((ps.length : Int) + 1)] 118) H.out.1 H.out.2.1 H.out.2.2 HG1.out.1 (by rw [hW1]; exact ⟨HG1.out.2.1.os, HG1.out.2.1.tape, HG1.out.2.1.output, HG1.out.2.1.size, HG1.out.2.1.block⟩) (HG1.out.2.2.imp id (fun h => h.trans (by show some (W1.alloc (.cells #[.slice A n c, .slice none 0 0, .int .i64 ((ps.length : Int) + 1)] 118)).heap.size = _; rw [World.size_alloc, hsz])))
    exact ⟨⟨_, rfl⟩, row', hk1, hk2, hk3⟩)
end Go.Proofs.YtmoakgkoahjijaaGreatDoor

/- The cursor that is not there (nil, or never made), and widths that may not be. -/
set_option linter.unusedVariables false
set_option linter.unusedSimpArgs false
set_option maxRecDepth 100000
namespace Go.Proofs.YtmoakgkoahjijaaGreatDoor
open Go.RowKit PkMath

/-- A cursor that was never made, in a block of its own. -/
def ZCur (W : World) (z : Nat) : Prop := W.heap[z]? = some (.cells #[.slice none 0 0, .int .i64 0, .bool false] 76 (0, 0))
theorem gone_nil (w : World) : Calls Tryz.prog 135 #[.pointer none] w fun e w' => e = .returned (.bool true) ∧ w = w' := by
  go_enter Tryz.func135, Tryz.ntmps135
  go_wp2
  go_ret
  exact ⟨rfl, rfl⟩
theorem gone_zero (z : Nat) (w : World) (h : ZCur w z) : Calls Tryz.prog 135 #[.pointer (some ⟨z, 0, none⟩)] w fun e w' => e = .returned (.bool true) ∧ w = w' := by
  have c2 : w.cell? ⟨z, 2, none⟩ = some (.bool false) := cellOf h 2
  clear h
  go_enter Tryz.func135, Tryz.ntmps135
  go_wp2
  go_ret
  exact ⟨rfl, rfl⟩
section
variable {P : Option Addr} {w : World}
theorem At_gone (hg : Calls Tryz.prog 135 #[.pointer P] w fun e w' => e = .returned (.bool true) ∧ w = w') : Calls Tryz.prog 21 #[.pointer P] w fun e w' => e = .returned (.int .i64 0) ∧ w = w' := by
  have HG := aside' hg
  clear hg
  go_enter Tryz.func21, Tryz.ntmps21
  go_wp2_with fail
  refine Calls.mono HG.out ?_
  rintro e w' ⟨rfl, rfl⟩
  go_wp2
  go_ret
  exact ⟨rfl, rfl⟩
theorem Left_gone (hg : Calls Tryz.prog 135 #[.pointer P] w fun e w' => e = .returned (.bool true) ∧ w = w') : Calls Tryz.prog 19 #[.pointer P] w fun e w' => e = .returned (.int .i64 0) ∧ w = w' := by
  have HG := aside' hg
  clear hg
  go_enter Tryz.func19, Tryz.ntmps19
  go_wp2_with fail
  refine Calls.mono HG.out ?_
  rintro e w' ⟨rfl, rfl⟩
  go_wp2
  go_ret
  exact ⟨rfl, rfl⟩
theorem Rest_gone (hg : Calls Tryz.prog 135 #[.pointer P] w fun e w' => e = .returned (.bool true) ∧ w = w') : Calls Tryz.prog 23 #[.pointer P] w fun e w' => e = .returned (.slice none 0 0) ∧ w = w' := by
  have HG := aside' hg
  clear hg
  go_enter Tryz.func23, Tryz.ntmps23
  go_wp2_with fail
  refine Calls.mono HG.out ?_
  rintro e w' ⟨rfl, rfl⟩
  go_wp2
  go_ret
  exact ⟨rfl, rfl⟩
set_option maxHeartbeats 1600000 in
theorem Take_gone (x : Int) (hg : ∀ w1, Below w.heap.size w w1 → Calls Tryz.prog 135 #[.pointer P] w1 fun e w' => e = .returned (.bool true) ∧ w1 = w') : Calls Tryz.prog 17 #[.pointer P, .int .i64 x] w fun e w' => e = .returned (.tuple #[bitsV 0 0 0, .int .i64 2]) ∧ Below w.heap.size w w' := by
  have hB := (Below.refl w.heap.size w).alloc (Nat.le_refl _) (.cells #[.int .i64 0, .int .u64 0, .int .u64 0] 79 (0,0))
  have HG := aside' (hg _ hB)
  clear hg
  go_enter Tryz.func17, Tryz.ntmps17
  go_wp2_with fail
  refine Calls.mono HG.out ?_
  rintro e w' ⟨rfl, hw⟩
  have hw := hw.symm
  subst hw
  go_wp2
  have h4 : (w.alloc (.cells #[.int .i64 0, .int .u64 0, .int .u64 0] 79 (0,0))).heap[w.heap.size]? = some (.cells #[.int .i64 0, .int .u64 0, .int .u64 0] 79 (0,0)) := heap_alloc_new ..
  exact bodyPost_ret (results_row_tmp rfl _ _ w.heap.size 79 _ (0,0) _ rfl h4 Tryz.underlying79 rfl (by kernel_rfl)) rfl ⟨rfl, hB⟩
end
set_option maxHeartbeats 1600000 in
theorem Take_bad {base top : Nat} {w : World} {g : Nat} {zs : List Int} {at_ : Nat} (h : CurAt base top w g zs at_) (x : Int) (hx : x < 1 ∨ 128 < x) :
    Calls Tryz.prog 17 #[.pointer (some ⟨g, 0, none⟩), .int .i64 x] w fun e w' => e = .returned (.tuple #[bitsV 0 0 0, .int .i64 1]) ∧ Below w.heap.size w w' := by
  have hB := (Below.refl w.heap.size w).alloc (Nat.le_refl _) (.cells #[.int .i64 0, .int .u64 0, .int .u64 0] 79 (0,0))
  have H := aside' (h.below hB)
  clear h
  have h4 : (w.alloc (.cells #[.int .i64 0, .int .u64 0, .int .u64 0] 79 (0,0))).heap[w.heap.size]? = some (.cells #[.int .i64 0, .int .u64 0, .int .u64 0] 79 (0,0)) := heap_alloc_new ..
  have H4 := aside' h4
  clear h4
  rcases hx with hx | hx
  · have hd1 : decide (x < 1) = true := decide_eq_true hx
    go_enter Tryz.func17, Tryz.ntmps17
    go_wp2_with fail
    refine (gone_any H.out).mono ?_
    rintro e w' ⟨rfl, hw⟩
    have hw := hw.symm
    subst hw
    go_wp2
    exact bodyPost_ret (results_row_tmp rfl _ _ w.heap.size 79 _ (0,0) _ rfl H4.out Tryz.underlying79 rfl (by kernel_rfl)) rfl ⟨rfl, hB⟩
  · have hd1 : decide (x < 1) = false := decide_eq_false (by omega)
    have hd2 : decide (128 < x) = true := decide_eq_true hx
    go_enter Tryz.func17, Tryz.ntmps17
    go_wp2_with fail
    refine (gone_any H.out).mono ?_
    rintro e w' ⟨rfl, hw⟩
    have hw := hw.symm
    subst hw
    go_wp2
    exact bodyPost_ret (results_row_tmp rfl _ _ w.heap.size 79 _ (0,0) _ rfl H4.out Tryz.underlying79 rfl (by kernel_rfl)) rfl ⟨rfl, hB⟩
end Go.Proofs.YtmoakgkoahjijaaGreatDoor

/- The document's cursor: what it keeps, and its contracts. -/
set_option linter.unusedVariables false
set_option linter.unusedSimpArgs false
set_option maxRecDepth 100000
namespace Go.Proofs.YtmoakgkoahjijaaGreatDoor
open Go.RowKit PkMath

def RCurAt (base top : Nat) (w : World) (g : Nat) (zs : List Int) (at_ : Nat) : Prop :=
  base ≤ g ∧ zs.length ≤ 65536 ∧ at_ ≤ 8 * zs.length ∧ ∃ A c, w.heap[g]? = some (.cells #[.slice A zs.length c, .int .i64 at_] 108 (0, 0)) ∧ w.ownsRow base 5 1 (.slice A zs.length c) zs.length (nums .u8 zs) ∧ (∀ ad, A = some ad → ad.block ≠ g ∧ ad.block < top)
theorem RCurAt.lt {base top : Nat} {w : World} {g : Nat} {zs : List Int} {at_ : Nat} (h : RCurAt base top w g zs at_) : g < w.heap.size := by
  obtain ⟨_, _, _, A, c, hb, _⟩ := h
  exact (Array.getElem?_eq_some_iff.1 hb).1
theorem RCurAt.below {base top : Nat} {w w' : World} {g : Nat} {zs : List Int} {at_ : Nat} (h : RCurAt base top w g zs at_) (hb : Below w.heap.size w w') : RCurAt base top w' g zs at_ := by
  obtain ⟨h1, h2, h3, A, c, h4, h5, h6⟩ := h
  exact ⟨h1, h2, h3, A, c, (hb.block g (Array.getElem?_eq_some_iff.1 h4).1).trans h4, own_keep h5 hb, h6⟩
theorem RNew_big (A : Option Addr) (n c : Nat) (w : World) (hn : 65536 < n) (hm : n ≤ 9223372036854775807) :
    Calls Tryz.prog 15 #[.slice A n c] w fun e w' => e = .returned (.tuple #[.pointer none, .int .i64 3]) ∧ w = w' := by
  go_enter Tryz.func15, Tryz.ntmps15
  go_wp2
  go_ret2
  exact ⟨rfl, rfl⟩
section
variable {base top : Nat} {w : World} {g : Nat} {zs : List Int} {at_ : Nat}
theorem RLeft_any (h : RCurAt base top w g zs at_) : Calls Tryz.prog 20 #[.pointer (some ⟨g, 0, none⟩)] w fun e w' => e = .returned (.int .i64 (8 * (zs.length : Int) - at_)) ∧ ∃ q, w' = w.drewN q := by
  obtain ⟨_, h1, h2, A, c, hb, _⟩ := h
  have c0 : w.cell? ⟨g, 0, none⟩ = some (.slice A zs.length c) := cellOf hb 0
  have c1 : w.cell? ⟨g, 1, none⟩ = some (.int .i64 at_) := cellOf hb 1
  generalize zs.length = n at *
  clear hb
  have s1 : IntKind.i64.wrap (8 * (n : Int)) = 8 * (n : Int) := by rw [IntKind.wrap_i64]; omega
  have s2 : IntKind.i64.wrap (8 * (n : Int) - (at_ : Int)) = 8 * (n : Int) - (at_ : Int) := by rw [IntKind.wrap_i64]; omega
  go_enter Tryz.func20, Tryz.ntmps20
  go_wp2_with fail
  go_quiet (fail)
  go_wp2
  go_ret
  exact ⟨rfl, _, rfl⟩
theorem RPlace_any (h : RCurAt base top w g zs at_) : Calls Tryz.prog 22 #[.pointer (some ⟨g, 0, none⟩)] w fun e w' => e = .returned (.int .i64 at_) ∧ w = w' := by
  obtain ⟨_, h1, h2, A, c, hb, _⟩ := h
  have c1 : w.cell? ⟨g, 1, none⟩ = some (.int .i64 at_) := cellOf hb 1
  clear hb
  go_enter Tryz.func22, Tryz.ntmps22
  go_wp2
  go_ret
  exact ⟨rfl, rfl⟩
end
theorem RLeft_nil (w : World) : Calls Tryz.prog 20 #[.pointer none] w fun e w' => e = .returned (.int .i64 0) ∧ w = w' := by
  go_enter Tryz.func20, Tryz.ntmps20
  go_wp2
  go_ret
  exact ⟨rfl, rfl⟩
theorem RPlace_nil (w : World) : Calls Tryz.prog 22 #[.pointer none] w fun e w' => e = .returned (.int .i64 0) ∧ w = w' := by
  go_enter Tryz.func22, Tryz.ntmps22
  go_wp2
  go_ret
  exact ⟨rfl, rfl⟩
theorem RRest_nil (w : World) : Calls Tryz.prog 24 #[.pointer none] w fun e w' => e = .returned (.slice none 0 0) ∧ w = w' := by
  go_enter Tryz.func24, Tryz.ntmps24
  go_wp2
  go_ret
  exact ⟨rfl, rfl⟩
end Go.Proofs.YtmoakgkoahjijaaGreatDoor

/- The document's cursor: its rest. -/
set_option linter.unusedVariables false
set_option linter.unusedSimpArgs false
namespace Go.Proofs.YtmoakgkoahjijaaGreatDoor
open Go.RowKit PkMath

set_option maxHeartbeats 1600000 in
set_option maxRecDepth 100000 in
theorem RRest_any {base top : Nat} {w : World} {g : Nat} {zs : List Int} {at_ : Nat} (h : RCurAt base top w g zs at_) :
    Calls Tryz.prog 24 #[.pointer (some ⟨g, 0, none⟩)] w fun e w' => ∃ v, e = .returned v ∧ w'.ownsRow w.heap.size 5 1 v (zs.length - (at_ + 7) / 8) (nums .u8 (zs.drop ((at_ + 7) / 8))) ∧ Below w.heap.size w w' := by
  have H : Aside (RCurAt base top w g zs at_) := h
  obtain ⟨_, h1, h2, A, c, hb, hown, _⟩ := h
  have c0 : w.cell? ⟨g, 0, none⟩ = some (.slice A zs.length c) := cellOf hb 0
  have c1 : w.cell? ⟨g, 1, none⟩ = some (.int .i64 at_) := cellOf hb 1
  clear hb
  have HRD : Aside (Reads w .u8 A zs.length zs) := own_rd' hown
  have HO : Aside (w.drew.ownsRow w.heap.size 5 1 (.slice none 0 0) ([] : List Int).length (nums .u8 [])) := World.ownsRow_nil _ _ _ _
  obtain ⟨r, hr⟩ : ∃ r, r = (at_ + 7) / 8 := ⟨_, rfl⟩
  have hrn : r ≤ zs.length := by omega
  have s1 : IntKind.i64.wrap ((at_ : Int) + 7) = (at_ : Int) + 7 := by rw [IntKind.wrap_i64]; omega
  have s2 : ((at_ : Int) + 7) / 8 = (r : Int) := by omega
  have s3 : ((at_ : Int) + 7).tdiv 8 = (r : Int) := by rw [Int.tdiv_eq_ediv_of_nonneg (by omega)]; exact s2
  have s4 : (0 : Int) ≤ (r : Int) := by omega
  have s7 : IntKind.i64.wrap (r : Int) = (r : Int) := by rw [IntKind.wrap_i64]; omega
  have hglt := H.out.lt
  have s5 : (r : Int) ≤ (zs.length : Int) := by omega
  have hnc : zs.length ≤ c := by
    rcases hown.2 with ⟨e, _⟩ | ⟨_, cap, _, e, _, _, hc, _⟩
    · injection e with _ e2 e3; omega
    · injection e with _ _ e3; omega
  rw [← hr]
  have HRr : Aside (r = (at_ + 7) / 8) := hr
  clear hr
  rcases hown.2 with ⟨e, h0⟩ | ⟨g2, cap, cur, e, hg2, hb2, hc2, hcm, _⟩
  · injection e with e1 e2 e3
    subst e1 e3
    obtain rfl : r = 0 := by omega
    have hz : zs = [] := List.eq_nil_of_length_eq_zero h0
    subst hz
    have HD : Aside (Reads w.drew .u8 none 0 []) := Reads.nil _ _
    clear hown HRr
    go_enter Tryz.func24, Tryz.ntmps24
    simp only [List.length_nil, Int.natCast_zero] at *
    go_wp2_with fail
    go_region_held3 (fun w' => w'.cell? ⟨g, 0, none⟩ = some (.slice none 0 0) ∧ w'.cell? ⟨g, 1, none⟩ = some (.int .i64 at_)) (first | go_keep | exact ⟨c0, c1⟩)
      ((refine step_append_row w.heap.size (by rfl) _ _ 24 5 .u8 1 (by rfl) Tryz.underlying24 infoByte (by omega) (.slice none 0 0) [] [] _ 0 0 (by rfl) (by rfl) (by exact HO.out) (by exact HD.out) (by exact Nat.le_refl _) (by simp) ?_; intro v1 w1 hown1 hg1 hat1; have hb1 : Below w.heap.size w w1 := (Below.refl _ _).drew.trans (own_grown HO.out hg1 (Nat.le_refl _)); have c0 := (hb1.cell (p := ⟨g, 0, none⟩) hglt).trans c0; have c1 := (hb1.cell (p := ⟨g, 1, none⟩) hglt).trans c1))
    go_wp2
    go_ret
    exact ⟨v1, rfl, by simpa using hown1, hb1⟩
  · injection e with e1 e2 e3
    subst e1 e3
    have hcm' : c ≤ 9223372036854775807 := by simpa [maxLen] using hcm
    have hdl : Aside ((zs.drop r).length = zs.length - r) := by show List.length _ = _; rw [List.length_drop]
    by_cases hcr : c = r
    · have hrn2 : zs.length = r := by omega
      have HD : Aside (Reads w.drew .u8 (some ⟨g2, 0, none⟩) 0 (zs.drop r)) := ⟨by rw [hdl.out]; omega, by omega, fun h => by omega⟩
      have c0 : w.cell? ⟨g, 0, none⟩ = some (.slice (some ⟨g2, 0, none⟩) r r) := by rw [c0, hrn2, hcr]
      rw [hrn2] at hdl s5 hrn ⊢
      subst hcr
      clear hown hb2 HRr
      generalize zs.drop c = ys at *
      have HY : Aside (ys.length = c - c) := by show ys.length = c - c; rw [hdl.out]
      go_enter Tryz.func24, Tryz.ntmps24
      go_wp2_with fail
      go_region_held3 (fun w' => w'.cell? ⟨g, 0, none⟩ = some (.slice (some ⟨g2, 0, none⟩) c c) ∧ w'.cell? ⟨g, 1, none⟩ = some (.int .i64 at_)) (first | go_keep | exact ⟨c0, c1⟩)
        ((refine step_append_row w.heap.size (by rfl) _ _ 24 5 .u8 1 (by rfl) Tryz.underlying24 infoByte (by omega) (.slice none 0 0) [] ys _ 0 0 (by rfl) (by first | rfl | simp) (by exact HO.out) (by exact HD.out) (by exact Nat.le_refl _) (by simp) ?_; intro v1 w1 hown1 hg1 hat1; have hb1 : Below w.heap.size w w1 := (Below.refl _ _).drew.trans (own_grown HO.out hg1 (Nat.le_refl _)); have c0 := (hb1.cell (p := ⟨g, 0, none⟩) hglt).trans c0; have c1 := (hb1.cell (p := ⟨g, 1, none⟩) hglt).trans c1))
      go_wp2
      go_ret
      exact ⟨v1, rfl, by rw [List.nil_append, HY.out] at hown1; exact hown1, hb1⟩
    · have HD : Aside (Reads w.drew .u8 (some ⟨g2, r, none⟩) (zs.length - r) (zs.drop r)) := by have := (HRD.out.below ((Below.refl _ _).drew)).drop_ r hrn; rwa [Nat.zero_add] at this
      clear hown hb2
      generalize zs.drop r = ys at *
      generalize hn : zs.length = n at *
      have s6 : (n : Int) ≤ (c : Int) := by omega
      have hsl : ∀ W : World, (Instr.slice 24 (.slice (some ⟨g2, 0, none⟩) n c) (some (.int .i64 (r : Int))) none none).run Tryz.prog W = .ok (.slice (some ⟨g2, r, none⟩) (n - r) (c - r)) W := by
        intro W
        rw [run_slice_l (P := Tryz.prog) W 24 (some ⟨g2, 0, none⟩) n c (by kernel_rfl) .i64 (r : Int) s4 s5]
        have hsz : (sizeOf (Tryz.prog.elem 24)).run Tryz.prog W = .ok 1 W := by kernel_rfl
        rw [hsz]
        simp [sliced, Result.andThen, hcr, Addr.add_lit]
      have HCR : Aside (¬ c = r) := hcr
      clear hcr
      go_enter Tryz.func24, Tryz.ntmps24
      go_wp2_with fail
      go_region_held3 (fun w' => w'.cell? ⟨g, 0, none⟩ = some (.slice (some ⟨g2, 0, none⟩) n c) ∧ w'.cell? ⟨g, 1, none⟩ = some (.int .i64 at_)) (first | go_keep | exact ⟨c0, c1⟩)
        ((refine step_append_row w.heap.size (by rfl) _ _ 24 5 .u8 1 (by rfl) Tryz.underlying24 infoByte (by omega) (.slice none 0 0) [] ys _ (n - r) (c - r) (by rfl) (by rfl) (by exact HO.out) (by exact HD.out) (by exact Nat.le_refl _) (by simp; omega) ?_; intro v1 w1 hown1 hg1 hat1; have hb1 : Below w.heap.size w w1 := (Below.refl _ _).drew.trans (own_grown HO.out hg1 (Nat.le_refl _)); have c0 := (hb1.cell (p := ⟨g, 0, none⟩) hglt).trans c0; have c1 := (hb1.cell (p := ⟨g, 1, none⟩) hglt).trans c1))
      go_wp2
      go_ret
      exact ⟨v1, rfl, by rw [List.nil_append, hdl.out] at hown1; exact hown1, hb1⟩
end Go.Proofs.YtmoakgkoahjijaaGreatDoor

/- The document's cursor: New. -/
set_option linter.unusedVariables false
set_option linter.unusedSimpArgs false
set_option maxRecDepth 100000
namespace Go.Proofs.YtmoakgkoahjijaaGreatDoor
open Go.RowKit PkMath

set_option maxHeartbeats 1600000 in
theorem RNew_any (A : Option Addr) (n c : Nat) (zs : List Int) (w : World) (hR : Reads w .u8 A n zs) (hn : n ≤ 65536) :
    Calls Tryz.prog 15 #[.slice A n c] w fun e w' => ∃ g, e = .returned (.tuple #[.pointer (some ⟨g, 0, none⟩), .int .i64 0]) ∧ RCurAt w.heap.size w'.heap.size w' g zs 0 ∧ Below w.heap.size w w' := by
  have hB := (Below.refl w.heap.size w).alloc (Nat.le_refl _) (.cells #[.slice none 0 0, .int .i64 0] 108)
  have HR := aside' (And.intro (hR.below hB) (And.intro hB hR.1))
  have hbx := heap_alloc_new w (.cells #[.slice none 0 0, .int .i64 0] 108)
  have HBX := aside' hbx
  have HO : Aside ((w.alloc (.cells #[.slice none 0 0, .int .i64 0] 108)).ownsRow w.heap.size 5 1 (.slice none 0 0) ([] : List Int).length (nums .u8 [])) := World.ownsRow_nil _ _ _ _
  have c0 : (w.alloc (.cells #[.slice none 0 0, .int .i64 0] 108)).cell? ⟨w.heap.size, 0, none⟩ = some (.slice none 0 0) := cellOf hbx 0
  have hsz : (w.alloc (.cells #[.slice none 0 0, .int .i64 0] 108)).heap.size = w.heap.size + 1 := by simp
  have hg1 : decide (65536 < (n : Int)) = false := decide_eq_false (by omega)
  clear hR hbx hB
  go_enter Tryz.func15, Tryz.ntmps15
  go_upto_region 4 with fail
  generalize w.alloc (.cells #[.slice none 0 0, .int .i64 0] 108) = W at *
  go_wp2_with (
    at_builtin
    refine append_row w.heap.size rfl _ _ 24 5 .u8 1 rfl Tryz.underlying24 infoByte (by omega) (.slice none 0 0) [] zs A n c rfl rfl HO.out HR.out.1 (by omega) (by simp; omega) ?_
    intro v1 w1 hown hg hat
    have hzl : ([] ++ zs : List Int).length = n := by simpa using HR.out.2.2
    rw [hzl, List.nil_append] at hown
    obtain ⟨A1, L1, c1, rfl, HL1⟩ := own_form hown
    have hb1 := (hg.block w.heap.size (by omega) (by simp [Value.ownBlock])).trans HBX.out
    have k0 : w1.cell? ⟨w.heap.size, 0, none⟩ = some (.slice none 0 0) := cellOf hb1 0
    have f0 := frozenOf hb1 0
    have HK := aside' (And.intro hown (And.intro hg (And.intro hat hb1)))
    clear hown hg hat hb1)
  go_ret2
  obtain ⟨hown, hg, hat, hb1⟩ := HK.out
  have hlen : zs.length = n := HR.out.2.2
  obtain rfl : L1 = n := HL1.out
  have hBw : Below w.heap.size w w1 := HR.out.2.1.trans (own_grown HO.out hg (by omega))
  have hA1 : ∀ ad, A1 = some ad → ad.block ≠ w.heap.size := by
    intro ad had e
    subst had
    rcases hat with h | h
    · simp [Value.ownBlock] at h
    · simp only [Value.ownBlock, Option.some.injEq] at h; omega
  subst hlen
  refine ⟨w.heap.size, rfl, ⟨Nat.le_refl _, hn, Nat.zero_le _, A1, c1, ?_, ?_, fun ad had => ⟨hA1 ad had, by have := (hown.lt ad.block (by rw [had]; rfl)).2; simpa using this⟩⟩, hBw.setCell (p := ⟨_, _, _⟩) (Nat.le_refl _) _⟩
  · rw [setCell_heap hb1 0 _]
    rfl
  · exact own_foot hown ((Foot.refl (fun k => k = w.heap.size) w1).setCell (p := ⟨w.heap.size, 0, none⟩) (.inl rfl) _) (fun k hk e => by
      cases A1 with
      | none => simp [Value.ownBlock] at hk
      | some ad =>
        simp only [Value.ownBlock, Option.some.injEq] at hk
        exact hA1 ad rfl (hk.trans e))
end Go.Proofs.YtmoakgkoahjijaaGreatDoor

/- The document's Take, where it refuses; a bit of bytes. -/
set_option linter.unusedVariables false
set_option linter.unusedSimpArgs false
set_option maxRecDepth 100000
namespace Go.Proofs.YtmoakgkoahjijaaGreatDoor
open Go.RowKit PkMath

set_option maxHeartbeats 3200000 in
theorem RTake_nil (x : Int) (w : World) : Calls Tryz.prog 18 #[.pointer none, .int .i64 x] w fun e w' => e = .returned (.tuple #[bitsV 0 0 0, .int .i64 2]) ∧ Below w.heap.size w w' := by
  have hB := (Below.refl w.heap.size w).alloc (Nat.le_refl _) (.cells #[.int .i64 0, .int .u64 0, .int .u64 0] 79 (0,0))
  have h4 : (w.alloc (.cells #[.int .i64 0, .int .u64 0, .int .u64 0] 79 (0,0))).heap[w.heap.size]? = some (.cells #[.int .i64 0, .int .u64 0, .int .u64 0] 79 (0,0)) := heap_alloc_new ..
  have H4 := aside' h4
  clear h4
  go_enter Tryz.func18, Tryz.ntmps18
  go_wp2
  exact bodyPost_ret (results_row_tmp rfl _ _ w.heap.size 79 _ (0,0) _ rfl H4.out Tryz.underlying79 rfl (by kernel_rfl)) rfl ⟨rfl, hB⟩
set_option maxHeartbeats 3200000 in
theorem RTake_bad (g : Nat) (x : Int) (w : World) (hx : x < 1 ∨ 128 < x) :
    Calls Tryz.prog 18 #[.pointer (some ⟨g, 0, none⟩), .int .i64 x] w fun e w' => e = .returned (.tuple #[bitsV 0 0 0, .int .i64 1]) ∧ Below w.heap.size w w' := by
  have hB := (Below.refl w.heap.size w).alloc (Nat.le_refl _) (.cells #[.int .i64 0, .int .u64 0, .int .u64 0] 79 (0,0))
  have h4 : (w.alloc (.cells #[.int .i64 0, .int .u64 0, .int .u64 0] 79 (0,0))).heap[w.heap.size]? = some (.cells #[.int .i64 0, .int .u64 0, .int .u64 0] 79 (0,0)) := heap_alloc_new ..
  have H4 := aside' h4
  clear h4
  rcases hx with hx | hx
  · have hd1 : decide (x < 1) = true := decide_eq_true hx
    go_enter Tryz.func18, Tryz.ntmps18
    go_wp2
    exact bodyPost_ret (results_row_tmp rfl _ _ w.heap.size 79 _ (0,0) _ rfl H4.out Tryz.underlying79 rfl (by kernel_rfl)) rfl ⟨rfl, hB⟩
  · have hd1 : decide (x < 1) = false := decide_eq_false (by omega)
    have hd2 : decide (128 < x) = true := decide_eq_true hx
    go_enter Tryz.func18, Tryz.ntmps18
    go_wp2
    exact bodyPost_ret (results_row_tmp rfl _ _ w.heap.size 79 _ (0,0) _ rfl H4.out Tryz.underlying79 rfl (by kernel_rfl)) rfl ⟨rfl, hB⟩
set_option maxHeartbeats 3200000 in
theorem RTake_short {base top : Nat} {w : World} {g : Nat} {zs : List Int} {at_ : Nat} (h : RCurAt base top w g zs at_) (wd : Nat) (h1 : 1 ≤ wd) (h2 : wd ≤ 128) (h3 : 8 * zs.length - at_ < wd) :
    Calls Tryz.prog 18 #[.pointer (some ⟨g, 0, none⟩), .int .i64 (wd : Int)] w fun e w' => e = .returned (.tuple #[bitsV 0 0 0, .int .i64 9]) ∧ Below w.heap.size w w' := by
  have hB := (Below.refl w.heap.size w).alloc (Nat.le_refl _) (.cells #[.int .i64 0, .int .u64 0, .int .u64 0] 79 (0,0))
  have H := aside' (RLeft_any (h.below hB))
  have hal := h.2.2.1
  have hd1 : decide ((wd : Int) < 1) = false := decide_eq_false (by omega)
  have hd2 : decide (128 < (wd : Int)) = false := decide_eq_false (by omega)
  have hd3 : decide (8 * (zs.length : Int) - (at_ : Int) < (wd : Int)) = true := decide_eq_true (by omega)
  clear h
  generalize hn : zs.length = n at *
  go_enter Tryz.func18, Tryz.ntmps18
  go_wp2_with fail
  refine Calls.mono H.out ?_
  rintro e w' ⟨rfl, q, rfl⟩
  go_wp2
  have h4 : ((w.alloc (.cells #[.int .i64 0, .int .u64 0, .int .u64 0] 79 (0,0))).drewN q).heap[w.heap.size]? = some (.cells #[.int .i64 0, .int .u64 0, .int .u64 0] 79 (0,0)) := heap_alloc_new ..
  refine bodyPost_ret (results_row_tmp rfl _ _ w.heap.size 79 _ (0,0) _ rfl (set3 h4 _ _ _) Tryz.underlying79 rfl (by kernel_rfl)) rfl ⟨rfl, ?_⟩
  exact (((below_drewN hB q).setCell (p := ⟨_, _, _⟩) (Nat.le_refl _) _).setCell (p := ⟨_, _, _⟩) (Nat.le_refl _) _).setCell (p := ⟨_, _, _⟩) (Nat.le_refl _) _
/-- A bit of bytes. -/
theorem bit_any (A : Option Addr) (n c : Nat) (zs : List Int) (w : World) (hR : Reads w .u8 A n zs) (hz : ∀ j, 0 ≤ zs.getD j 0 ∧ zs.getD j 0 ≤ 255) (m : Nat) (hm : m < 8 * n) (hn : n ≤ 65536) :
    Calls Tryz.prog 138 #[.slice A n c, .int .i64 (m : Int)] w fun e w' => e = .returned (.bool ((zs.getD (m / 8) 0).toNat.testBit (7 - m % 8))) ∧ w = w' := by
  obtain ⟨q, hq⟩ : ∃ q, q = m / 8 := ⟨_, rfl⟩
  obtain ⟨r, hr⟩ : ∃ r, r = m % 8 := ⟨_, rfl⟩
  have hqn : q < n := by omega
  have hr8 : r < 8 := by omega
  obtain ⟨ad, hA, hc⟩ := hR.2.2 (by omega)
  subst hA
  have hcq := hc q hqn
  have hzq := hz q
  rw [← hq, ← hr]
  have d1 : ((m : Int)) / 8 = (q : Int) := by omega
  have d2 : ((m : Int)).tdiv 8 = (q : Int) := by rw [Int.tdiv_eq_ediv_of_nonneg (by omega)]; exact d1
  have d3 : ((m : Int)) % 8 = (r : Int) := by omega
  have d4 : ((m : Int)).tmod 8 = (r : Int) := by rw [Int.tmod_eq_emod_of_nonneg (by omega)]; exact d3
  generalize zs.getD q 0 = z at *
  obtain ⟨zn, hzn⟩ := Int.eq_ofNat_of_zero_le hzq.1
  subst hzn
  have i0 : (0 : Int) ≤ (q : Int) := by omega
  have i1 : (q : Int) < (n : Int) := by omega
  have i2 : (0 : Int) ≤ 7 - (r : Int) := by omega
  clear hc hR hz hq hr
  go_enter Tryz.func138, Tryz.ntmps138
  go_wp2
  go_ret
  refine ⟨?_, rfl⟩
  obtain ⟨p, h1, h2⟩ := part_eq (zn : Int) hzq (7 - r) 1 (by decide) (by decide)
  have e : ((2 : Int) ^ 1 - 1) % 256 = 1 := by decide
  rw [e] at h1
  show Ending.returned (Value.bool (bits BinOp.and IntKind.u8 ((zn : Int) / 2 ^ (7 - r)) 1 == 1)) = _
  rw [h1, Nat.testBit_eq_decide_div_mod_eq]
  rw [Nat.pow_one] at h2
  rw [← h2]
  by_cases hp : p = 1
  · subst hp; rfl
  · have hp2 : ((p : Int) == 1) = false := by rw [beq_eq_false_iff_ne]; omega
    rw [hp2, decide_eq_false hp]
end Go.Proofs.YtmoakgkoahjijaaGreatDoor

/- A range over a function whose iterator reads memory of its own and of its caller's: what a round keeps. -/
set_option linter.unusedVariables false
set_option linter.unusedSimpArgs false
namespace Go.Proofs.YtmoakgkoahjijaaGreatDoor
open Go.RowKit

/-- Behind a round all cells that lay there and are none of F's lie as they lay. -/
structure KeepC (F : Nat → Prop) (W W' : World) : Prop where
  os : W'.os = W.os
  tape : W'.tape = W.tape
  output : W'.output = W.output
  size : W.heap.size ≤ W'.heap.size
  block : ∀ (k : Nat) (cs : Array Value) (t : TypeId) (fr : Nat × Nat), W.heap[k]? = some (.cells cs t fr) → ¬ F k → W'.heap[k]? = some (.cells cs t fr)
theorem KeepC.refl (F : Nat → Prop) (W : World) : KeepC F W W := ⟨rfl, rfl, rfl, Nat.le_refl _, fun _ _ _ _ h _ => h⟩
theorem KeepC.trans {F : Nat → Prop} {A B C : World} (h : KeepC F A B) (k : KeepC F B C) : KeepC F A C :=
  ⟨k.os.trans h.os, k.tape.trans h.tape, k.output.trans h.output, Nat.le_trans h.size k.size, fun i cs t fr hi hF => k.block i cs t fr (h.block i cs t fr hi hF) hF⟩
theorem KeepC.ofFoot {F : Nat → Prop} {A B : World} (h : Foot F A B) : KeepC F A B :=
  ⟨h.os, h.tape, h.output, h.size, fun i cs t fr hi hF => (h.block i (Array.getElem?_eq_some_iff.1 hi).1 hF).trans hi⟩
/-- The law's own book-keeping. -/
theorem KeepC.putObj {F : Nat → Prop} (W : World) (l : Nat) (o o' : Obj) (h : W.heap[l]? = some o) (hc : o.isCells = false) : KeepC F W (W.putObj l o') :=
  ⟨rfl, rfl, rfl, by simp, fun k cs t fr hk hF => by
    rw [World.putObj_heap_other (by rintro rfl; rw [hk] at h; cases h; cases hc)]; exact hk⟩
theorem keepC_b (F : Nat → Prop) (w : World) (W : World) (l : Nat) (o o' : Obj) (_ : w.heap.size ≤ l) (h : W.heap[l]? = some o) (hc : o.isCells = false) (_ : o.isWalk = false) : KeepC F W (W.putObj l o') := KeepC.putObj W l o o' h hc
theorem KeepC.cell {F : Nat → Prop} {A B : World} (h : KeepC F A B) {p : Addr} {v : Value} (hc : A.cell? p = some v) (hF : ¬ F p.block) : B.cell? p = some v := by
  have hh : ∃ cs t fr, A.heap[p.block]? = some (.cells cs t fr) := by
    rcases hh : A.heap[p.block]? with _ | o
    · simp [World.cell?, hh] at hc
    · cases o with
      | cells cs t fr => exact ⟨cs, t, fr, rfl⟩
      | _ => simp [World.cell?, hh] at hc
  obtain ⟨cs, t, fr, hk⟩ := hh
  exact (World.cell?_of_block (w := A) ((h.block _ cs t fr hk hF).trans hk.symm)).trans hc
theorem KeepC.row {F : Nat → Prop} {A B : World} (h : KeepC F A B) {base : Nat} {e : TypeId} {size : Nat} {v : Value} {n : Nat} {xs : List Value} (ho : A.ownsRow base e size v n xs) (hF : ∀ k, v.ownBlock = some k → ¬ F k) : B.ownsRow base e size v n xs := by
  obtain ⟨h1, h2⟩ := ho
  refine ⟨h1, ?_⟩
  rcases h2 with h2 | ⟨g, cap, cur, hv, hg, hh, r⟩
  · exact .inl h2
  · exact .inr ⟨g, cap, cur, hv, hg, h.block _ _ _ _ hh (hF g (by rw [hv]; rfl)), r⟩
theorem KeepC.alloc {F : Nat → Prop} {A B : World} (h : KeepC F A B) (o : Obj) : KeepC F A (B.alloc o) := h.trans (KeepC.ofFoot ((Foot.refl F B).alloc o))
theorem KeepC.drew {F : Nat → Prop} {A B : World} (h : KeepC F A B) : KeepC F A B.drew := h.trans (KeepC.ofFoot ((Foot.refl F B).drew))
theorem KeepC.drewN {F : Nat → Prop} {A B : World} (h : KeepC F A B) (n : Nat) : KeepC F A (B.drewN n) := h.trans (KeepC.ofFoot ((Foot.refl F B).drewN n))
theorem KeepC.mono {F G : Nat → Prop} {A B : World} (h : KeepC F A B) (hG : ∀ k, F k → G k) : KeepC G A B := ⟨h.os, h.tape, h.output, h.size, fun k cs t fr hk hF => h.block k cs t fr hk (fun f => hF (hG k f))⟩

variable {F : Fence} {n : Nat} {P : Program}
/-- The law of the range, the frame of a round being found by the walk itself. -/
theorem range_own {α : Type} {g : Operand} {ps : Array Tmp} {assign body : Code} {Q : Exit → Act → World → Prop} {a : Act} {w : World}
    (hro : F.round = none) (h1 : 1 ≤ n) {gf : Nat} {lb : Array Value} (hg : a.eval g = .func (.func gf) #[] lb) (hFg : F.fn gf) (eg : ∀ args w, (callFunc gf args).run P w = .ok (.enter gf args) w)
    {encs : α → Array Value} {Kp : World → World → Prop} {S Sp : List α → Prop} {N : Nat} {w0 : World} (hseq : SeqStopsK F (n - 1) P gf lb encs Kp S Sp N w0)
    (hKt : ∀ {A B C : World}, Kp A B → Kp B C → Kp A C) (hKb : ∀ (W : World) (l : Nat) (o o' : Obj), w.heap.size ≤ l → W.heap[l]? = some o → o.isCells = false → o.isWalk = false → Kp W (W.putObj l o')) (hb0 : Below w0.heap.size w0 w) (hps : ∀ x, (encs x).size = ps.size)
    (I : List α → World → Prop) (Ix : Code → List α → World → Prop) (hI : OwnFrom w.heap.size I) (hIx : ∀ c, OwnFrom w.heap.size (Ix c)) (h0 : I [] w)
    (hround : ∀ x : α, ∃ a1 : Act, (∀ (l : Nat) (W : World) (K : Act → World → Prop), K a1 W →
        assign.wpIn (F.inRound l) (n - 1 - 1) P (Exit.then K (fun _ _ _ => False)) { tmps := (ps.zip (encs x)).foldl (fun t (p, v) => t.setIfInBounds p v) a.tmps, defers := [] } W) ∧
      ∀ (l : Nat) (pre : List α) (W : World), I pre W → pre.length < N → body.wpIn (F.inRound l) (n - 1 - 1) P (ownPostK Kp I Ix (pre ++ [x]) W) a1 W)
    (hdone : ∀ (D : Nat) (xs : List α) (W : World), w.heap.size ≤ D → S xs → I xs W → W.heap[D]? = some (.deferred (some [])) → Q .normal { a with defers := { target := .collected D, args := #[] } :: a.defers } W)
    (hstop : ∀ (D : Nat) (c : Code) (pre : List α) (W : World), w.heap.size ≤ D → Sp pre → Ix c pre W → W.heap[D]? = some (.deferred (some [])) → c.wpIn F n P Q { a with defers := { target := .collected D, args := #[] } :: a.defers } W) :
    (Code.rangeFunc g ps assign body).wpIn F n P Q a w :=
  wpIn_rangeFunc_ownF hro h1 hg hFg eg hseq (fun h k => hKt h k) hKb hb0 hps I Ix hI hIx h0 (fun x => Classical.choose (hround x))
    (fun l x W K hK => (Classical.choose_spec (hround x)).1 l W K hK) (fun l pre x W hi hl => (Classical.choose_spec (hround x)).2 l pre W hi hl) hdone hstop
end Go.Proofs.YtmoakgkoahjijaaGreatDoor

/- Numbers of bits as they lie in slices, and as they come in. -/
set_option linter.unusedVariables false
set_option linter.unusedSimpArgs false
namespace Go.Proofs.YtmoakgkoahjijaaGreatDoor
open Go.RowKit

/-- A number of bits, as it is told. -/
structure Num where
  W : Int
  Hi : Int
  Lo : Int
instance : Inhabited Num := ⟨⟨0, 0, 0⟩⟩
def Num.wf (x : Num) : Prop := (-9223372036854775808 ≤ x.W ∧ x.W ≤ 9223372036854775807) ∧ (0 ≤ x.Hi ∧ x.Hi ≤ 18446744073709551615) ∧ (0 ≤ x.Lo ∧ x.Lo ≤ 18446744073709551615)
def Num.v (x : Num) : Value := .agg #[.int .i64 x.W, .int .u64 x.Hi, .int .u64 x.Lo]
def zeroNum : Num := ⟨0, 0, 0⟩

/-- A slice of numbers that is read. -/
def ReadsNums (w : World) (A : Option Addr) (n : Nat) (xs : List Num) : Prop :=
  xs.length = n ∧ n ≤ 9223372036854775807 ∧ (0 < n → ∃ b off, A = some ⟨b, off, none⟩ ∧ b < w.heap.size ∧ ∀ j, j < n → w.cell? ⟨b, off + j * 3, none⟩ = some (.int .i64 (xs.getD j zeroNum).W) ∧ w.cell? ⟨b, off + (j * 3 + 1), none⟩ = some (.int .u64 (xs.getD j zeroNum).Hi) ∧ w.cell? ⟨b, off + (j * 3 + 2), none⟩ = some (.int .u64 (xs.getD j zeroNum).Lo))
theorem ReadsNums.below {w w' : World} {A : Option Addr} {n : Nat} {xs : List Num} (h : ReadsNums w A n xs) (hb : Below w.heap.size w w') : ReadsNums w' A n xs := by
  refine ⟨h.1, h.2.1, fun hn => ?_⟩
  obtain ⟨b, off, h1, h2, h3⟩ := h.2.2 hn
  refine ⟨b, off, h1, Nat.lt_of_lt_of_le h2 hb.size, fun j hj => ?_⟩
  obtain ⟨c0, c1, c2⟩ := h3 j hj
  exact ⟨(hb.cell (p := ⟨_, _, _⟩) h2).trans c0, (hb.cell (p := ⟨_, _, _⟩) h2).trans c1, (hb.cell (p := ⟨_, _, _⟩) h2).trans c2⟩

section
variable {H : Type} {enc : TypeId × Value → H} {w : World} {cs : List Value}
set_option maxRecDepth 100000 in
/-- One number, as it comes in. -/
theorem Came.num (h : Came enc Tryz.prog w 79 cs) : ∃ x : Num, cs = [.int .i64 x.W, .int .u64 x.Hi, .int .u64 x.Lo] ∧ x.wf := by
  obtain ⟨hl, hf⟩ := h.struct Tryz.underlying79
  have h3 : Tryz.prog.cellsOf 79 = 3 := by kernel_rfl
  have hi : Tryz.prog.cellsOf 3 = 1 := by kernel_rfl
  have hu : Tryz.prog.cellsOf 77 = 1 := by kernel_rfl
  rw [h3] at hl
  have f0 : Came enc Tryz.prog w 3 ((cs.drop 0).take (Tryz.prog.cellsOf 3)) := hf 0 _ rfl
  have f1 : Came enc Tryz.prog w 77 ((cs.drop 1).take (Tryz.prog.cellsOf 77)) := hf 1 _ rfl
  have f2 : Came enc Tryz.prog w 77 ((cs.drop 2).take (Tryz.prog.cellsOf 77)) := hf 2 _ rfl
  clear hf
  match cs, hl with
  | [a, b, c], _ =>
    rw [hi] at f0
    rw [hu] at f1 f2
    obtain ⟨x, hx, wx⟩ := f0.int Tryz.underlying3
    obtain ⟨y, hy, wy⟩ := f1.int Tryz.underlying77
    obtain ⟨z, hz, wz⟩ := f2.int Tryz.underlying77
    simp at hx hy hz
    exact ⟨⟨x, y, z⟩, by rw [hx, hy, hz], bd_i64 wx, bd_u64 wy, bd_u64 wz⟩
/-- A slice of numbers, as it comes in. -/
theorem Came.nums {t : TypeId} (ht : Tryz.prog.underlying t = some (.slice 79)) (h : Came enc Tryz.prog w t cs) :
    ∃ A n c xs, cs = [.slice A n c] ∧ n ≤ c ∧ c ≤ 9223372036854775807 ∧ n * Tryz.prog.bytesOf 79 ≤ 140737488351232 ∧ ReadsNums w A n xs ∧ ∀ j, j < n → (xs.getD j zeroNum).wf := by
  obtain ⟨A, n, c, h1, h2, h3, h4, h5, h6, h7⟩ := h.slice ht
  unfold maxLen at h3
  have h3c : Tryz.prog.cellsOf 79 = 3 := by kernel_rfl
  rw [h3c] at h7
  cases A with
  | none =>
    obtain ⟨rfl, rfl⟩ := h6 rfl
    exact ⟨none, 0, 0, [], h1, h2, by omega, h4, ⟨rfl, by omega, fun h => by omega⟩, fun j hj => by omega⟩
  | some ad =>
    obtain ⟨xs, hl, hx⟩ := list_of zeroNum n (p := fun i x => (w.cell? ((ad.add (i * 3)).add 0) = some (.int .i64 x.W) ∧ w.cell? ((ad.add (i * 3)).add 1) = some (.int .u64 x.Hi) ∧ w.cell? ((ad.add (i * 3)).add 2) = some (.int .u64 x.Lo)) ∧ x.wf) (fun i hi => by
      obtain ⟨cs', h8, h9⟩ := h7 ad rfl i hi
      obtain ⟨_, _, hc⟩ := World.cells?_some h8
      obtain ⟨x, hx, hw⟩ := h9.num
      rw [hx] at hc
      exact ⟨x, ⟨hc 0 (by omega), hc 1 (by omega), hc 2 (by omega)⟩, hw⟩)
    refine ⟨some ad, n, c, xs, h1, h2, by omega, h4, ⟨hl, by omega, fun hn => ?_⟩, fun j hj => (hx j hj).2⟩
    obtain ⟨b, off, spot⟩ := ad
    have h0 := (hx 0 hn).1.1
    have hs : spot = none := by simpa [Addr.add] using World.cell?_spot h0
    subst hs
    refine ⟨b, off, rfl, ?_, fun j hj => ?_⟩
    · have := World.block_lt_of_cell? w _ h0
      rwa [add_block, add_block] at this
    · have := (hx j hj).1
      rw [Addr.add_lit, Addr.add_lit, Addr.add_lit, Addr.add_lit] at this
      simpa [Nat.add_assoc] using this
end
end Go.Proofs.YtmoakgkoahjijaaGreatDoor

/- The contract of bits.Check, of any number. -/
set_option linter.unusedVariables false
set_option linter.unusedSimpArgs false
namespace Go.Proofs.YtmoakgkoahjijaaGreatDoor
open Go.RowKit

/-- A number that may be. -/
def Num.ok (x : Num) : Prop := 1 ≤ x.W ∧ x.W ≤ 128 ∧ cutHi x.W.toNat x.Hi = x.Hi ∧ cutLo x.W.toNat x.Lo = x.Lo

theorem held_bits {g : Nat} {u v : World} {a b c : Value} {w : World} (h : (u.cell? ⟨g, 0, none⟩ = some a ∧ u.cell? ⟨g, 1, none⟩ = some b ∧ u.cell? ⟨g, 2, none⟩ = some c) ∧ Below w.heap.size w u ∧ g < u.heap.size) (hb : Below u.heap.size u v) :
    (v.cell? ⟨g, 0, none⟩ = some a ∧ v.cell? ⟨g, 1, none⟩ = some b ∧ v.cell? ⟨g, 2, none⟩ = some c) ∧ Below w.heap.size w v ∧ g < v.heap.size := by
  obtain ⟨⟨h1, h2, h3⟩, h4, h5⟩ := h
  have := hb.size
  exact ⟨⟨(hb.cell (p := ⟨_, _, _⟩) h5).trans h1, (hb.cell (p := ⟨_, _, _⟩) h5).trans h2, (hb.cell (p := ⟨_, _, _⟩) h5).trans h3⟩, h4.trans (hb.mono h4.size), by omega⟩

set_option maxHeartbeats 1600000 in
theorem check_good (x : Num) (hw : x.wf) (ho : x.ok) (w : World) : Calls Tryz.prog 40 #[x.v] w fun e w' => e = .returned (.bool true) ∧ Below w.heap.size w w' := by
  obtain ⟨W, hi, lo⟩ := x
  obtain ⟨h1, h2, h3, h4⟩ := ho
  obtain ⟨_, b1, b2⟩ := hw
  simp only at h1 h2 h3 h4 b1 b2
  obtain ⟨n, rfl⟩ := Int.eq_ofNat_of_zero_le (show 0 ≤ W by omega)
  simp only [Int.toNat_natCast] at h3 h4
  have hd : decide (1 ≤ (n : Int) ∧ (n : Int) ≤ 128) = true := decide_eq_true ⟨h1, h2⟩
  have hcut := fun W => cut_any n hi lo W (by omega) (by omega) b1 b2
  simp only [h3, h4] at hcut
  have k0 : (w.alloc (.cells #[.int .i64 (n : Int), .int .u64 hi, .int .u64 lo] 79 (0,0))).drew.cell? ⟨w.heap.size, 0, none⟩ = some (.int .i64 n) := cellOf (w := (w.alloc (.cells #[.int .i64 (n : Int), .int .u64 hi, .int .u64 lo] 79 (0,0))).drew) (heap_alloc_new w _) 0
  have k1 : (w.alloc (.cells #[.int .i64 (n : Int), .int .u64 hi, .int .u64 lo] 79 (0,0))).drew.cell? ⟨w.heap.size, 1, none⟩ = some (.int .u64 hi) := cellOf (w := (w.alloc (.cells #[.int .i64 (n : Int), .int .u64 hi, .int .u64 lo] 79 (0,0))).drew) (heap_alloc_new w _) 1
  have k2 : (w.alloc (.cells #[.int .i64 (n : Int), .int .u64 hi, .int .u64 lo] 79 (0,0))).drew.cell? ⟨w.heap.size, 2, none⟩ = some (.int .u64 lo) := cellOf (w := (w.alloc (.cells #[.int .i64 (n : Int), .int .u64 hi, .int .u64 lo] 79 (0,0))).drew) (heap_alloc_new w _) 2
  have hB : Below w.heap.size w (w.alloc (.cells #[.int .i64 (n : Int), .int .u64 hi, .int .u64 lo] 79 (0,0))).drew := ((Below.refl _ _).alloc (Nat.le_refl _) _).drew
  have hs : w.heap.size < (w.alloc (.cells #[.int .i64 (n : Int), .int .u64 hi, .int .u64 lo] 79 (0,0))).drew.heap.size := by show w.heap.size < (w.alloc _).heap.size; simp
  have HC : Aside _ := hcut
  clear hcut h3 h4
  unfold bitsV at HC
  unfold Num.v
  go_enter Tryz.func40, Tryz.ntmps40
  go_wp2_with fail
  go_region_held3 (fun w' => (w'.cell? ⟨w.heap.size, 0, none⟩ = some (.int .i64 (n : Int)) ∧ w'.cell? ⟨w.heap.size, 1, none⟩ = some (.int .u64 hi) ∧ w'.cell? ⟨w.heap.size, 2, none⟩ = some (.int .u64 lo)) ∧ Below w.heap.size w w' ∧ w.heap.size < w'.heap.size)
    (first | exact ⟨⟨k0, k1, k2⟩, hB, hs⟩ | assumption | exact held_bits (by assumption) hb5)
    ((go_simp; (first
      | (go_at_call 142; refine (wide_any _ _).mono ?_; rintro e w5 ⟨rfl, rfl⟩; rw [hd])
      | (go_at_call 143; refine Calls.mono (HC.out _) ?_; rintro e w5 ⟨rfl, hb5⟩))))
  go_wp2
  go_ret
  rename_i hh
  exact ⟨rfl, hh.2.1⟩

theorem wide_no (x : Int) (h : ¬ (1 ≤ x ∧ x ≤ 128)) (w : World) : Calls Tryz.prog 142 #[.int .i64 x] w fun e w' => e = .returned (.bool false) ∧ w = w' := by
  have := wide_any x w
  rwa [decide_eq_false h] at this
set_option maxHeartbeats 800000 in
theorem check_wide (x : Num) (ho : ¬ (1 ≤ x.W ∧ x.W ≤ 128)) (w : World) : Calls Tryz.prog 40 #[x.v] w fun e w' => e = .returned (.bool false) ∧ Below w.heap.size w w' := by
  obtain ⟨W, hi, lo⟩ := x
  have HW : Aside (∀ w, Calls Tryz.prog 142 #[.int .i64 W] w fun e w' => e = .returned (.bool false) ∧ w = w') := wide_no W ho
  have k0 : (w.alloc (.cells #[.int .i64 W, .int .u64 hi, .int .u64 lo] 79 (0,0))).drew.cell? ⟨w.heap.size, 0, none⟩ = some (.int .i64 W) := cellOf (w := (w.alloc (.cells #[.int .i64 W, .int .u64 hi, .int .u64 lo] 79 (0,0))).drew) (heap_alloc_new w _) 0
  have hB : Below w.heap.size w (w.alloc (.cells #[.int .i64 W, .int .u64 hi, .int .u64 lo] 79 (0,0))) := (Below.refl _ _).alloc (Nat.le_refl _) _
  clear ho
  unfold Num.v
  go_enter Tryz.func40, Tryz.ntmps40
  go_wp2_with fail
  go_quiet ((go_at_call 142; exact Calls.quiet_of_same ((HW.out _).mono (fun e w2 h => ⟨h.1, h.2.symm⟩))))
  go_wp2
  go_ret
  exact ⟨rfl, below_drewN hB _⟩
set_option maxHeartbeats 1600000 in
theorem check_cut (x : Num) (hw : x.wf) (h1 : 1 ≤ x.W) (h2 : x.W ≤ 128) (ho : ¬ (cutHi x.W.toNat x.Hi = x.Hi ∧ cutLo x.W.toNat x.Lo = x.Lo)) (w : World) : Calls Tryz.prog 40 #[x.v] w fun e w' => e = .returned (.bool false) ∧ Below w.heap.size w w' := by
  obtain ⟨W, hi, lo⟩ := x
  obtain ⟨_, b1, b2⟩ := hw
  simp only at h1 h2 ho b1 b2
  obtain ⟨n, rfl⟩ := Int.eq_ofNat_of_zero_le (show 0 ≤ W by omega)
  simp only [Int.toNat_natCast] at ho
  have hd : decide (1 ≤ (n : Int) ∧ (n : Int) ≤ 128) = true := decide_eq_true ⟨h1, h2⟩
  have hcut := fun W => cut_any n hi lo W (by omega) (by omega) b1 b2
  generalize cutHi n hi = a at *
  generalize cutLo n lo = b at *
  have hab : (hi == a && lo == b) = false := by
    by_cases e1 : hi = a
    · by_cases e2 : lo = b
      · exact absurd ⟨e1.symm, e2.symm⟩ ho
      · simp [e2]
    · simp [e1]
  have k0 : (w.alloc (.cells #[.int .i64 (n : Int), .int .u64 hi, .int .u64 lo] 79 (0,0))).drew.cell? ⟨w.heap.size, 0, none⟩ = some (.int .i64 n) := cellOf (w := (w.alloc (.cells #[.int .i64 (n : Int), .int .u64 hi, .int .u64 lo] 79 (0,0))).drew) (heap_alloc_new w _) 0
  have k1 : (w.alloc (.cells #[.int .i64 (n : Int), .int .u64 hi, .int .u64 lo] 79 (0,0))).drew.cell? ⟨w.heap.size, 1, none⟩ = some (.int .u64 hi) := cellOf (w := (w.alloc (.cells #[.int .i64 (n : Int), .int .u64 hi, .int .u64 lo] 79 (0,0))).drew) (heap_alloc_new w _) 1
  have k2 : (w.alloc (.cells #[.int .i64 (n : Int), .int .u64 hi, .int .u64 lo] 79 (0,0))).drew.cell? ⟨w.heap.size, 2, none⟩ = some (.int .u64 lo) := cellOf (w := (w.alloc (.cells #[.int .i64 (n : Int), .int .u64 hi, .int .u64 lo] 79 (0,0))).drew) (heap_alloc_new w _) 2
  have hB : Below w.heap.size w (w.alloc (.cells #[.int .i64 (n : Int), .int .u64 hi, .int .u64 lo] 79 (0,0))).drew := ((Below.refl _ _).alloc (Nat.le_refl _) _).drew
  have hs : w.heap.size < (w.alloc (.cells #[.int .i64 (n : Int), .int .u64 hi, .int .u64 lo] 79 (0,0))).drew.heap.size := by show w.heap.size < (w.alloc _).heap.size; simp
  have HC : Aside _ := hcut
  have HAB : Aside ((hi == a && lo == b) = false) := hab
  clear hcut ho hab
  have heq : ∀ W0 : World, (binOp .eql 79 (.agg #[.int .i64 (n : Int), .int .u64 hi, .int .u64 lo]) (.agg #[.int .i64 (n : Int), .int .u64 a, .int .u64 b])).run Tryz.prog W0 = .ok (.bool false) W0 := by
    intro W0
    have hz := HAB.out
    go_simp
    intro e1 e2
    simp [e1, e2] at hz
  unfold bitsV at HC
  unfold Num.v
  go_enter Tryz.func40, Tryz.ntmps40
  go_wp2_with fail
  go_region_held3 (fun w' => (w'.cell? ⟨w.heap.size, 0, none⟩ = some (.int .i64 (n : Int)) ∧ w'.cell? ⟨w.heap.size, 1, none⟩ = some (.int .u64 hi) ∧ w'.cell? ⟨w.heap.size, 2, none⟩ = some (.int .u64 lo)) ∧ Below w.heap.size w w' ∧ w.heap.size < w'.heap.size)
    (first | exact ⟨⟨k0, k1, k2⟩, hB, hs⟩ | assumption | exact held_bits (by assumption) hb5)
    ((go_simp; (first
      | (go_at_call 142; refine (wide_any _ _).mono ?_; rintro e w5 ⟨rfl, rfl⟩; rw [hd])
      | (go_at_call 143; refine Calls.mono (HC.out _) ?_; rintro e w5 ⟨rfl, hb5⟩))))
  go_wp2
  go_ret
  rename_i hh
  exact ⟨rfl, hh.2.1⟩
/-- Any number. -/
def Num.okB (x : Num) : Bool := decide (1 ≤ x.W ∧ x.W ≤ 128 ∧ cutHi x.W.toNat x.Hi = x.Hi ∧ cutLo x.W.toNat x.Lo = x.Lo)
theorem Num.okB_iff (x : Num) : x.okB = true ↔ x.ok := by unfold Num.okB Num.ok; simp
theorem check_bad (x : Num) (hw : x.wf) (ho : ¬ x.ok) (w : World) : Calls Tryz.prog 40 #[x.v] w fun e w' => e = .returned (.bool false) ∧ Below w.heap.size w w' := by
  by_cases h : 1 ≤ x.W ∧ x.W ≤ 128
  · exact check_cut x hw h.1 h.2 (fun hc => ho ⟨h.1, h.2, hc.1, hc.2⟩) w
  · exact check_wide x h w
theorem check_any (x : Num) (hw : x.wf) (w : World) : Calls Tryz.prog 40 #[x.v] w fun e w' => e = .returned (.bool x.okB) ∧ Below w.heap.size w w' := by
  by_cases h : x.ok
  · rw [x.okB_iff.2 h]; exact check_good x hw h w
  · have e : x.okB = false := by cases hb : x.okB; rfl; exact absurd (x.okB_iff.1 hb) h
    rw [e]; exact check_bad x hw h w
end Go.Proofs.YtmoakgkoahjijaaGreatDoor

/- Numbers of bits, one behind the other: plain Lean about Num, bits and bytes. -/
set_option linter.unusedVariables false
set_option linter.unusedSimpArgs false
namespace Go.Proofs.YtmoakgkoahjijaaGreatDoor
open Go.RowKit PkMath

/-- A number's value, and its bits. -/
def Num.val (x : Num) : Nat := x.Hi.toNat * 18446744073709551616 + x.Lo.toNat
def Num.bits (x : Num) : List Bool := bitsOfNum x.W.toNat x.val
def allBits (l : List Num) : List Bool := l.flatMap Num.bits
theorem Num.bits_length (x : Num) : x.bits.length = x.W.toNat := bitsOfNum_length _ _
theorem Num.halves {x : Num} (hw : x.wf) : hiOf x.val = x.Hi ∧ loOf x.val = x.Lo := by
  obtain ⟨_, h1, h2⟩ := hw
  unfold hiOf loOf Num.val
  constructor <;> omega
theorem Num.val_lt {x : Num} (hw : x.wf) (ho : x.ok) : x.val < 2 ^ x.W.toNat := by
  obtain ⟨W, hi, lo⟩ := x
  obtain ⟨_, h1, h2⟩ := hw
  obtain ⟨o1, o2, o3, o4⟩ := ho
  simp only at h1 h2 o1 o2 o3 o4
  unfold Num.val
  simp only
  obtain ⟨n, rfl⟩ := Int.eq_ofNat_of_zero_le (show 0 ≤ W by omega)
  simp only [Int.toNat_natCast] at *
  unfold cutHi at o3
  unfold cutLo at o4
  by_cases h : n < 64
  · rw [if_pos h] at o3 o4
    have hp : (2 : Int) ^ n = ((2 ^ n : Nat) : Int) := by simp
    have hpos := Nat.two_pow_pos n
    rw [hp] at o4
    have h4 : lo < ((2 ^ n : Nat) : Int) := by rw [← o4]; exact Int.emod_lt_of_pos _ (by omega)
    subst o3
    omega
  · rw [if_neg h] at o3 o4
    have hp : (2 : Int) ^ (n - 64) = ((2 ^ (n - 64) : Nat) : Int) := by simp
    have hpos := Nat.two_pow_pos (n - 64)
    rw [hp] at o3
    have h3 : hi < ((2 ^ (n - 64) : Nat) : Int) := by rw [← o3]; exact Int.emod_lt_of_pos _ (by omega)
    have e : 2 ^ n = 2 ^ (n - 64) * 18446744073709551616 := by
      rw [show (18446744073709551616 : Nat) = 2 ^ 64 by decide, ← Nat.pow_add]
      congr 1
      omega
    rw [e]
    have h5 : hi.toNat + 1 ≤ 2 ^ (n - 64) := by omega
    have h6 : (hi.toNat + 1) * 18446744073709551616 ≤ 2 ^ (n - 64) * 18446744073709551616 := Nat.mul_le_mul_right _ h5
    omega
theorem Num.of_val {x : Num} (hw : x.wf) (ho : x.ok) : numOf x.bits = x.val := numOf_bits_lt _ _ (x.val_lt hw ho)
/-- A number of w bits, out of its value. -/
def mkNum (w v : Nat) : Num := ⟨(w : Int), hiOf v, loOf v⟩
theorem mkNum_wf (w v : Nat) (hw : w ≤ 128) (hv : v < 2 ^ w) : (mkNum w v).wf := by
  obtain ⟨_, h1, h2⟩ := cut_same v w hv hw
  exact ⟨⟨by show -9223372036854775808 ≤ (w : Int); omega, by show (w : Int) ≤ _; omega⟩, h1, h2⟩
theorem mkNum_ok (w v : Nat) (h1 : 1 ≤ w) (hw : w ≤ 128) (hv : v < 2 ^ w) : (mkNum w v).ok := by
  obtain ⟨⟨h2, h3⟩, _⟩ := cut_same v w hv hw
  exact ⟨by show (1 : Int) ≤ (w : Int); omega, by show (w : Int) ≤ 128; omega, h2, h3⟩
theorem mkNum_val (w v : Nat) (h : v < 2 ^ 128) : (mkNum w v).val = v := by
  unfold Num.val mkNum hiOf loOf
  simp only
  omega
theorem mkNum_bits (w v : Nat) (hw : w ≤ 128) (hv : v < 2 ^ w) : (mkNum w v).bits = bitsOfNum w v := by
  unfold Num.bits
  rw [mkNum_val w v (Nat.lt_of_lt_of_le hv (Nat.pow_le_pow_right (by decide) hw))]
  rfl
/-- The number that a window is: its bits are the window. -/
theorem mkNum_win (l : List Bool) (a w : Nat) (hw : w ≤ 128) (h : a + w ≤ l.length) : (mkNum w (numOf (win l a w))).bits = win l a w := by
  have hl := win_length l a w h
  have hlt := numOf_lt (win l a w)
  rw [hl] at hlt
  rw [mkNum_bits _ _ hw hlt]
  have := bits_numOf (win l a w)
  rw [hl] at this
  exact this
theorem Num.mk_self {x : Num} (hw : x.wf) (ho : x.ok) : mkNum x.W.toNat x.val = x := by
  obtain ⟨h1, h2⟩ := Num.halves hw
  unfold mkNum
  rw [h1, h2]
  obtain ⟨o1, _⟩ := ho
  have e : ((x.W.toNat : Nat) : Int) = x.W := Int.toNat_of_nonneg (by omega)
  rw [e]

theorem allBits_nil : allBits [] = [] := rfl
theorem allBits_append (l m : List Num) : allBits (l ++ m) = allBits l ++ allBits m := List.flatMap_append ..
theorem allBits_one (x : Num) : allBits [x] = x.bits := by simp [allBits]
theorem takeN_succ (l : List Num) (k : Nat) (h : k < l.length) : l.take (k + 1) = l.take k ++ [l.getD k zeroNum] := by
  rw [List.take_succ_eq_append_getElem h]
  simp [List.getD_eq_getElem?_getD, List.getElem?_eq_getElem h]
theorem allBits_take_succ (l : List Num) (k : Nat) (h : k < l.length) : allBits (l.take (k + 1)) = allBits (l.take k) ++ (l.getD k zeroNum).bits := by
  rw [takeN_succ l k h, allBits_append, allBits_one]
theorem allBits_len_succ (l : List Num) (k : Nat) (h : k < l.length) : (allBits (l.take (k + 1))).length = (allBits (l.take k)).length + (l.getD k zeroNum).W.toNat := by
  rw [allBits_take_succ l k h, List.length_append, Num.bits_length]
theorem allBits_len_take (l : List Num) (k : Nat) : (allBits (l.take k)).length ≤ (allBits l).length := by
  conv => rhs; rw [← List.take_append_drop k l, allBits_append, List.length_append]
  exact Nat.le_add_right _ _
theorem allBits_split (l : List Num) (k : Nat) (h : k < l.length) : allBits l = allBits (l.take k) ++ ((l.getD k zeroNum).bits ++ allBits (l.drop (k + 1))) := by
  conv => lhs; rw [← List.take_append_drop (k + 1) l, allBits_append, allBits_take_succ l k h, List.append_assoc]
/-- The window of a number within all. -/
theorem allBits_win (l : List Num) (k : Nat) (h : k < l.length) : win (allBits l) (allBits (l.take k)).length (l.getD k zeroNum).W.toNat = (l.getD k zeroNum).bits := by
  conv => lhs; rw [allBits_split l k h]
  unfold win
  rw [List.drop_left, ← Num.bits_length, List.take_left]
/-- Two lists with the same bits have the same windows. -/
theorem win_congr {l m : List Bool} (a w : Nat) (hl : a + w ≤ l.length) (hm : a + w ≤ m.length) (h : ∀ q, q < a + w → l.getD q false = m.getD q false) : win l a w = win m a w := by
  apply list_ext_getD (by rw [win_length _ _ _ hl, win_length _ _ _ hm])
  intro i hi
  rw [win_length _ _ _ hl] at hi
  rw [win_getD _ _ _ _ hi, win_getD _ _ _ _ hi]
  exact h _ (by omega)
theorem win_pack (l : List Bool) (m a w : Nat) (hm : l.length ≤ 8 * m) (h : a + w ≤ l.length) : win (bitsL (pack l m)) a w = win l a w :=
  win_congr a w (by rw [bitsL_length, pack_length]; omega) h (fun q _ => bitsL_pack l m q hm)
theorem numOf_zeros (l : List Bool) (h : ∀ q, l.getD q false = false) : numOf l = 0 := by
  induction l with
  | nil => rfl
  | cons b l ih =>
    have hb : b = false := h 0
    subst hb
    rw [numOf_cons, ih (fun q => h (q + 1))]
    simp
/-- Behind all bits are noughts. -/
theorem win_pack_end (l : List Bool) (m w : Nat) (hm : l.length ≤ 8 * m) : numOf (win (bitsL (pack l m)) l.length w) = 0 := by
  apply numOf_zeros
  intro q
  by_cases hq : q < w
  · rw [win_getD _ _ _ _ hq, bitsL_pack l m _ hm, getD_past _ _ (by omega)]
  · apply getD_past
    unfold win
    simp
    omega
theorem pack_bytes (l : List Bool) (m : Nat) : ∀ j, 0 ≤ (pack l m).getD j 0 ∧ (pack l m).getD j 0 ≤ 255 := by
  intro j
  by_cases h : j < m
  · rw [pack_getD l m j h]
    have := packByte_lt l j
    omega
  · rw [List.getD_eq_getElem?_getD, List.getElem?_eq_none (by rw [pack_length]; omega)]
    exact ⟨by decide, by decide⟩
end Go.Proofs.YtmoakgkoahjijaaGreatDoor

/- The iterator over the bits of numbers: packet.all. -/
set_option linter.unusedVariables false
set_option linter.unusedSimpArgs false
namespace Go.Proofs.YtmoakgkoahjijaaGreatDoor
open Go.RowKit Go.Shelf PkMath
attribute [local go_sem] Oper.semAt_some

theorem all_any (A : Option Addr) (n c : Nat) (w : World) : Calls Tryz.prog 41 #[.slice A n c] w fun e w' => e = .returned (.func (.func 144) #[] #[.pointer (some ⟨w.heap.size, 0, none⟩)]) ∧ w' = w.alloc (.cells #[.slice A n c] 22) := by
  go_enter Tryz.func41, Tryz.ntmps41
  go_wp2
  go_ret
  exact ⟨rfl, rfl⟩

theorem ReadsNums.keep {F : Nat → Prop} {w w' : World} {A : Option Addr} {n : Nat} {xs : List Num} (h : ReadsNums w A n xs) (hk : KeepC F w w') (hF : 0 < n → ∀ ad, A = some ad → ¬ F ad.block) : ReadsNums w' A n xs := by
  refine ⟨h.1, h.2.1, fun hn => ?_⟩
  obtain ⟨b, off, h1, h2, h3⟩ := h.2.2 hn
  refine ⟨b, off, h1, Nat.lt_of_lt_of_le h2 hk.size, fun j hj => ?_⟩
  obtain ⟨c0, c1, c2⟩ := h3 j hj
  have hb := hF hn _ h1
  exact ⟨hk.cell c0 hb, hk.cell c1 hb, hk.cell c2 hb⟩

/-- One bit of a number, as Go takes it. -/
theorem bit_of (z : Int) (h0 : 0 ≤ z) (h1 : z ≤ 18446744073709551615) (i : Nat) : (bits .and .u64 (z / 2 ^ i) 1 == 1) = z.toNat.testBit i := by
  obtain ⟨n, rfl⟩ := Int.eq_ofNat_of_zero_le h0
  have hp : (2 : Int) ^ i = ((2 ^ i : Nat) : Int) := by simp
  have e2 : (n : Int) / ((2 ^ i : Nat) : Int) = ((n / 2 ^ i : Nat) : Int) := (Int.natCast_ediv n (2 ^ i)).symm
  have hle : n / 2 ^ i ≤ n := Nat.div_le_self _ _
  rw [hp, e2, Int.toNat_natCast, Nat.testBit_eq_decide_div_mod_eq]
  generalize n / 2 ^ i = q at *
  have hm := bits_mask .u64 64 (by decide) wraps_u64 1 (by decide) (q : Int) (by omega) (by omega)
  rw [show (2 : Int) ^ 1 - 1 = 1 by decide, show (2 : Int) ^ 1 = 2 by decide] at hm
  rw [hm]
  rw [Bool.eq_iff_iff, beq_iff_eq, decide_eq_true_eq]
  omega
theorem val_two (x : Num) : x.val = 2 ^ 64 * x.Hi.toNat + x.Lo.toNat := by
  unfold Num.val
  rw [Nat.mul_comm (x.Hi.toNat), show (2 : Nat) ^ 64 = 18446744073709551616 by decide]
theorem bit_lo (x : Num) (hw : x.wf) (i : Nat) (hi : i < 64) : (bits .and .u64 (x.Lo / 2 ^ i) 1 == 1) = x.val.testBit i := by
  obtain ⟨_, h1, h2⟩ := hw
  rw [bit_of _ h2.1 h2.2, val_two, Nat.testBit_two_pow_mul_add _ (by rw [show (2 : Nat) ^ 64 = 18446744073709551616 by decide]; omega), if_pos hi]
theorem bit_hi (x : Num) (hw : x.wf) (i : Nat) : (bits .and .u64 (x.Hi / 2 ^ i) 1 == 1) = x.val.testBit (i + 64) := by
  obtain ⟨_, h1, h2⟩ := hw
  rw [bit_of _ h1.1 h1.2, val_two, Nat.testBit_two_pow_mul_add _ (by rw [show (2 : Nat) ^ 64 = 18446744073709551616 by decide]; omega), if_neg (by omega), Nat.add_sub_cancel]
theorem bits_take_succ (x : Num) (m t r : Nat) (hm : x.W = (m : Int)) (hr : r + 1 = m - t) : x.bits.take (t + 1) = x.bits.take t ++ [x.val.testBit r] := by
  have hl : x.bits.length = m := by rw [Num.bits_length, hm]; rfl
  rw [List.take_succ_eq_append_getElem (by omega)]
  congr 2
  have h := bitsOfNum_getD x.W.toNat x.val t (by omega)
  have hb : x.bits.getD t false = x.val.testBit r := by
    show (bitsOfNum x.W.toNat x.val).getD t false = _
    rw [h, show x.W.toNat - 1 - t = r by omega]
  rw [← hb, List.getD_eq_getElem?_getD, List.getElem?_eq_getElem (by omega)]
  rfl

set_option maxRecDepth 100000 in
set_option maxHeartbeats 2000000 in
theorem all1_in (F : Nat → Prop) (l Bn : Nat) (A : Option Addr) (n c : Nat) (xs : List Num) (hF : 0 < n → ∀ ad, A = some ad → ¬ F ad.block) (hFB : ¬ F Bn) (hwf : ∀ j, j < n → (xs.getD j zeroNum).wf ∧ (xs.getD j zeroNum).ok) (J Jx : List Bool → World → Prop)
    (W : World) (hFW : ∀ k, F k → k < W.heap.size) (hJ : AbidesFrom W.heap.size J)
    (hY : ∀ pre x W1, J pre W1 → pre.length < (allBits xs).length → YieldAt Fence.wide 1 Tryz.prog l #[.bool x] W1 fun e W' =>
      (e = .returned (.bool true) ∧ J (pre ++ [x]) W' ∧ KeepC F W1 W') ∨ (e = .returned (.bool false) ∧ Jx (pre ++ [x]) W'))
    (hBn : W.cell? ⟨Bn, 0, none⟩ = some (.slice A n c)) (hR : ReadsNums W A n xs) (h0 : J [] W) :
    CallsIn Fence.wide 2 Tryz.prog 144 #[.func (.yield l) #[] #[], .pointer (some ⟨Bn, 0, none⟩)] W fun e W' => (∃ v, e = .returned v) ∧
      ((∃ ys, ys = allBits xs ∧ J ys W') ∨ (∃ pre, pre <+: allBits xs ∧ Jx pre W')) := by
  refine callsIn_of_wp Tryz.func144 rfl trivial ?_ rfl
  simp only [Tryz.ntmps144, List.size_toArray, List.length_cons, List.length_nil, Nat.reduceAdd, Nat.reduceSub, Array.replicate_succ, Array.replicate_zero, List.push_toArray, List.append_toArray, List.nil_append, List.cons_append]
  have HR : Aside (ReadsNums W A n xs) := hR
  have HBn : Aside (W.cell? ⟨Bn, 0, none⟩ = some (.slice A n c)) := hBn
  have hnn := hR.2.1
  have HL : Aside (xs.length = n) := hR.1
  have HWF : Aside (∀ j, j < n → (xs.getD j zeroNum).wf ∧ (xs.getD j zeroNum).ok) := hwf
  clear hR hwf
  gi_wp2
  clear hBn
  gi_loopw [10] (fun i wr => ∃ k : Nat, k ≤ n ∧ i = .int .i64 k ∧ J (allBits (xs.take k)) wr ∧ KeepC F W wr)
    (fun i _ => n - (intOf i).toNat)
  case atStart => exact ⟨0, Nat.zero_le _, rfl, h0, KeepC.refl _ _⟩
  case round =>
    obtain ⟨k, hk, rfl, hJs, hK⟩ := hrel
    by_cases hlt : k < n
    · obtain ⟨b, off, hA, hbs, hcells⟩ := (HR.out.keep hK hF).2.2 (by omega)
      obtain ⟨x, hx⟩ : ∃ x, x = xs.getD k zeroNum := ⟨_, rfl⟩
      obtain ⟨q0, q1, q2⟩ := hcells k hlt
      rw [← hx] at q0 q1 q2
      rw [← Nat.add_assoc] at q1 q2
      subst hA
      have HX : Aside (x = xs.getD k zeroNum) := hx
      clear hx hcells
      have hok := HWF.out k hlt
      rw [← HX.out] at hok
      obtain ⟨m, hm⟩ : ∃ m : Nat, x.W = (m : Int) := ⟨x.W.toNat, by have := hok.2.1; omega⟩
      have hm1 : 1 ≤ m := by have := hok.2.1; omega
      have hm2 : m ≤ 128 := by have := hok.2.2.1; omega
      have HM : Aside (x.W = (m : Int) ∧ x.wf ∧ x.ok) := ⟨hm, hok.1, hok.2⟩
      rw [hm] at q0
      have hk0 : (0 : Int) ≤ (k : Int) := by omega
      have hk1 : (k : Int) < (n : Int) := by omega
      clear hm hok
      generalize hhi : x.Hi = hi at *
      generalize hlo : x.Lo = lo at *
      have HHL : Aside (x.Hi = hi ∧ x.Lo = lo) := ⟨hhi, hlo⟩
      clear hhi hlo
      obtain ⟨wo, rfl⟩ : ∃ wo : World, wo = wr := ⟨_, rfl⟩
      gi_wp2
      have HALL : Aside (allBits (xs.take (k + 1)) = allBits (xs.take k) ++ x.bits.take m) := by
        show _ = _
        rw [allBits_take_succ xs k (by rw [HL.out]; exact hlt), ← HX.out, show x.bits.take m = x.bits from List.take_of_length_le (by rw [Num.bits_length, HM.out.1]; simp)]
      have hnF : ¬ F wo.heap.size := fun h => by have h1 := hFW _ h; have h2 := hK.size; omega
      have hV : KeepC F W (wo.alloc (.cells #[.int .i64 (m : Int), .int .u64 hi, .int .u64 lo] 79)) := hK.alloc _
      have hJV : J (allBits (xs.take k) ++ x.bits.take 0) (wo.alloc (.cells #[.int .i64 (m : Int), .int .u64 hi, .int .u64 lo] 79)) := by
        rw [List.take_zero, List.append_nil]
        exact hJ _ _ _ none hJs (World.grownBy_alloc _ _ none) (fun r e => by cases e)
      have hbox : (wo.alloc (.cells #[.int .i64 (m : Int), .int .u64 hi, .int .u64 lo] 79)).heap[wo.heap.size]? = some (.cells #[.int .i64 (m : Int), .int .u64 hi, .int .u64 lo] 79 (0, 0)) := heap_alloc_new _ _
      have HBX : Aside ((wo.alloc (.cells #[.int .i64 (m : Int), .int .u64 hi, .int .u64 lo] 79)).heap[wo.heap.size]? = some (.cells #[.int .i64 (m : Int), .int .u64 hi, .int .u64 lo] 79 (0, 0))) := hbox
      have HS0 : Aside (wo.heap.size < (wo.alloc (.cells #[.int .i64 (m : Int), .int .u64 hi, .int .u64 lo] 79)).heap.size) := by simp [Aside]
      clear hbox q0 q1 q2
      generalize hg : wo.heap.size = g at *
      clear hg
      generalize hw2 : wo.alloc (.cells #[.int .i64 (m : Int), .int .u64 hi, .int .u64 lo] 79) = w2 at *
      clear hw2 hJs
      gi_loopw [5] (fun i wr => ∃ t : Nat, t ≤ m ∧ i = .int .i64 (((m - t : Nat) : Int) - 1) ∧ J (allBits (xs.take k) ++ x.bits.take t) wr ∧ KeepC F w2 wr)
        (fun i _ => (intOf i + 1).toNat)
      case atStart => exact ⟨0, Nat.zero_le _, by simp, hJV, KeepC.refl _ _⟩
      case round =>
        obtain ⟨t, ht, rfl, hJt, hK2⟩ := hrel
        by_cases htm : t < m
        · obtain ⟨r, hr⟩ : ∃ r : Nat, m - t = r + 1 := ⟨m - t - 1, by omega⟩
          have e1 : ((m - t : Nat) : Int) - 1 = (r : Int) := by omega
          have hr0 : (0 : Int) ≤ (r : Int) := by omega
          have hr1 : (r : Int) ≤ 127 := by omega
          rw [e1]
          have hb2 := hK2.block _ _ _ _ HBX.out hnF
          have p1 : wr.cell? ⟨g, 1, none⟩ = some (.int .u64 hi) := cellOf hb2 1
          have p2 : wr.cell? ⟨g, 2, none⟩ = some (.int .u64 lo) := cellOf hb2 2
          have hnext : allBits (xs.take k) ++ x.bits.take t ++ [x.val.testBit r] = allBits (xs.take k) ++ x.bits.take (t + 1) := by
            rw [bits_take_succ x m t r HM.out.1 (by omega), List.append_assoc]
          have hpre : allBits (xs.take k) ++ x.bits.take (t + 1) <+: allBits xs := by
            rw [allBits_split xs k (by rw [HL.out]; exact hlt), ← HX.out]
            conv => rhs; rw [← List.take_append_drop (t + 1) x.bits, List.append_assoc, ← List.append_assoc]
            exact List.prefix_append _ _
          have hlen : (allBits (xs.take k) ++ x.bits.take t).length < (allBits xs).length := by
            have h1 := hpre.length_le
            rw [← hnext, List.length_append, List.length_singleton] at h1
            omega
          have HPRE : Aside (allBits (xs.take k) ++ x.bits.take (t + 1) <+: allBits xs) := hpre
          obtain ⟨fn, tmps, assign, body, hy, hR⟩ := hY _ (x.val.testBit r) wr hJt hlen
          rw [hnext] at hR
          have HNX : Aside (r + 1 = m - t) := hr.symm
          clear hnext hlen hr e1 hb2 hpre
          by_cases h64 : r < 64
          · have hbit : (bits .and .u64 (lo / 2 ^ r) 1 == 1) = x.val.testBit r := by rw [← HHL.out.2]; exact bit_lo x HM.out.2.1 r h64
            generalize x.val.testBit r = bt at *
            have h64' : (r : Int) < 64 := by omega
            gi_wp2
            refine hR.mono ?_
            rintro e W3 (⟨rfl, hJ3, hk3⟩ | ⟨rfl, hJx3⟩)
            · gi_wp2
              go_roundw
              case rel => exact ⟨t + 1, by have := HNX.out; omega, by rw [show m - (t + 1) = r by have := HNX.out; omega], hJ3, hK2.trans hk3⟩
              case measure => (simp [intOf]; try omega)
            · gi_wp2
              refine bodyPost_ret (results_none rfl _ _ _) rfl ?_
              exact ⟨⟨_, rfl⟩, .inr ⟨_, HPRE.out, hJx3⟩⟩
          · obtain ⟨r2, rfl⟩ : ∃ r2, r = r2 + 64 := ⟨r - 64, by omega⟩
            have hbit : (bits .and .u64 (hi / 2 ^ r2) 1 == 1) = x.val.testBit (r2 + 64) := by rw [← HHL.out.1]; exact bit_hi x HM.out.2.1 r2
            generalize x.val.testBit (r2 + 64) = bt at *
            have h64' : (64 : Int) ≤ ((r2 + 64 : Nat) : Int) := by omega
            have s1 : ((r2 + 64 : Nat) : Int) - 64 = (r2 : Int) := by omega
            have s2 : (0 : Int) ≤ (r2 : Int) := by omega
            generalize hrr : ((r2 + 64 : Nat) : Int) = rr at *
            have HRR : Aside (((r2 + 64 : Nat) : Int) = rr) := hrr
            clear hrr
            gi_wp2
            refine hR.mono ?_
            rintro e W3 (⟨rfl, hJ3, hk3⟩ | ⟨rfl, hJx3⟩)
            · gi_wp2
              go_roundw
              case rel => exact ⟨t + 1, by have := HNX.out; omega, by rw [show m - (t + 1) = r2 + 64 by have := HNX.out; omega, HRR.out], hJ3, hK2.trans hk3⟩
              case measure => (simp [intOf]; try omega)
            · gi_wp2
              refine bodyPost_ret (results_none rfl _ _ _) rfl ?_
              exact ⟨⟨_, rfl⟩, .inr ⟨_, HPRE.out, hJx3⟩⟩
        · obtain rfl : t = m := by omega
          have e1 : (((t - t : Nat) : Int) - 1) = -1 := by omega
          rw [e1]
          gi_wp2
          go_roundw
          case rel => exact ⟨k + 1, by omega, by go_num, by rw [HALL.out]; exact hJt, hV.trans hK2⟩
          case measure => (simp [intOf]; try omega)
    · obtain rfl : k = n := by omega
      gi_wp2
      go_end0
      have e : xs.take k = xs := List.take_of_length_le (by rw [HL.out]; exact Nat.le_refl _)
      exact ⟨⟨_, rfl⟩, .inl ⟨_, rfl, by rw [e] at hJs; exact hJs⟩⟩
end Go.Proofs.YtmoakgkoahjijaaGreatDoor

/- packet.Put, where it refuses. -/
set_option linter.unusedVariables false
set_option linter.unusedSimpArgs false
namespace Go.Proofs.YtmoakgkoahjijaaGreatDoor
open Go.RowKit PkMath

/-- May all numbers be? -/
def allOk (xs : List Num) : Prop := ∀ j, j < xs.length → (xs.getD j zeroNum).ok
theorem len_bound (xs : List Num) (h : allOk xs) : ∀ k, k ≤ xs.length → (allBits (xs.take k)).length ≤ 128 * k := by
  intro k
  induction k with
  | zero => intro _; simp [allBits]
  | succ k ih =>
    intro hk
    rw [allBits_len_succ _ _ (by omega)]
    have := ih (by omega)
    have := (h k (by omega)).2.1
    omega

set_option maxRecDepth 100000 in
set_option maxHeartbeats 2000000 in
/-- The first one that may not be. -/
theorem Put_bad (A : Option Addr) (n c : Nat) (xs : List Num) (w : World) (hR : ReadsNums w A n xs) (hn : n ≤ 1048576) (hwf : ∀ j, j < n → (xs.getD j zeroNum).wf) (i : Nat) (hi : i < n) (hbad : ¬ (xs.getD i zeroNum).ok) (hok : ∀ j, j < i → (xs.getD j zeroNum).ok) :
    Calls Tryz.prog 7 #[.slice A n c] w fun e w' => e = .returned (.tuple #[.slice none 0 0, .int .i64 1]) ∧ Below w.heap.size w w' := by
  have HR : Aside (ReadsNums w A n xs) := hR
  have HW : Aside (∀ j, j < n → (xs.getD j zeroNum).wf) := hwf
  have HB : Aside (¬ (xs.getD i zeroNum).ok) := hbad
  have HO : Aside (∀ j, j < i → (xs.getD j zeroNum).ok) := hok
  clear hR hwf hbad hok
  go_enter Tryz.func7, Tryz.ntmps7
  go_wp2
  go_loopw [4, 12] (fun s i' wr => ∃ (k m : Nat), k ≤ i ∧ i' = .int .i64 k ∧ s = .int .i64 m ∧ m ≤ 128 * k ∧ Below w.heap.size w wr) (fun _ i' _ => n - (intOf i').toNat)
  case atStart => exact ⟨0, 0, Nat.zero_le _, rfl, rfl, Nat.le_refl _, Below.refl _ _⟩
  case round =>
    obtain ⟨k, m, hk, rfl, rfl, hm, hB⟩ := hrel
    obtain ⟨b, off, hA, hbs, hcells⟩ := (HR.out.below hB).2.2 (by omega)
    subst hA
    obtain ⟨q0, q1, q2⟩ := hcells k (by omega)
    rw [← Nat.add_assoc] at q1 q2
    obtain ⟨x, hx⟩ : ∃ x, x = xs.getD k zeroNum := ⟨_, rfl⟩
    rw [← hx] at q0 q1 q2
    have hwf := HW.out k (by omega)
    rw [← hx] at hwf
    have hk0 : (0 : Int) ≤ (k : Int) := by omega
    have hk1 : (k : Int) < (n : Int) := by omega
    clear hcells
    have hsz := hB.size
    by_cases hki : k = i
    · have hnok : ¬ x.ok := by rw [hx, hki]; exact HB.out
      have HC : Aside (∀ V, Calls Tryz.prog 40 #[x.v] V fun e w' => e = .returned (.bool false) ∧ Below V.heap.size V w') := fun V => check_bad x hwf hnok V
      clear hx hwf hnok hki
      obtain ⟨W, hi', lo⟩ := x
      unfold Num.v at HC
      simp only at q0 q1 q2 HC
      go_wp2_with fail
      refine Calls.mono (HC.out _) ?_
      rintro e w5 ⟨rfl, hb5⟩
      go_wp2
      go_ret2
      exact ⟨rfl, (hB.alloc hsz _).trans (hb5.mono (by simp; omega))⟩
    · have hok := HO.out k (by omega)
      rw [← hx] at hok
      have HC : Aside (∀ V, Calls Tryz.prog 40 #[x.v] V fun e w' => e = .returned (.bool true) ∧ Below V.heap.size V w') := fun V => check_good x hwf hok V
      have hW1 := hok.1
      have hW2 := hok.2.1
      obtain ⟨d, hd⟩ : ∃ d : Nat, x.W = (d : Int) := ⟨x.W.toNat, by omega⟩
      clear hx hwf hok
      obtain ⟨W, hi', lo⟩ := x
      unfold Num.v at HC
      simp only at q0 q1 q2 HC hW1 hW2 hd
      subst hd
      go_wp2_with fail
      refine Calls.mono (HC.out _) ?_
      rintro e w5 ⟨rfl, hb5⟩
      have h6 := (hb5.block wr.heap.size (by simp)).trans (heap_alloc_new wr (.cells #[.int .i64 (d : Int), .int .u64 hi', .int .u64 lo] 79))
      have p0 := cellOf h6 0
      simp only [List.getElem?_toArray, List.getElem?_cons_zero] at p0
      clear h6
      have hadd : (m : Int) + (d : Int) ≤ 9223372036854775807 := by omega
      have hadd0 : (0 : Int) ≤ (m : Int) + (d : Int) := by omega
      go_wp2
      go_roundw
      case rel => exact ⟨k + 1, m + d, by omega, by go_num, by go_num, by omega, (hB.alloc hsz _).trans (hb5.mono (by simp; omega))⟩
      case measure => simp [intOf]; omega

set_option maxRecDepth 100000 in
set_option maxHeartbeats 2000000 in
/-- Too many bits. -/
theorem Put_big (A : Option Addr) (n c : Nat) (xs : List Num) (w : World) (hR : ReadsNums w A n xs) (hn : n ≤ 1048576) (hwf : ∀ j, j < n → (xs.getD j zeroNum).wf) (hok : allOk xs) (hbig : 524288 < (allBits xs).length) :
    Calls Tryz.prog 7 #[.slice A n c] w fun e w' => e = .returned (.tuple #[.slice none 0 0, .int .i64 3]) ∧ Below w.heap.size w w' := by
  have HR : Aside (ReadsNums w A n xs) := hR
  have HL : Aside (xs.length = n) := hR.1
  have HW : Aside (∀ j, j < n → (xs.getD j zeroNum).wf) := hwf
  have HO : Aside (allOk xs) := hok
  have HBIG : Aside (524288 < (allBits xs).length) := hbig
  clear hR hwf hok hbig
  go_enter Tryz.func7, Tryz.ntmps7
  go_wp2
  go_loopw [4, 12] (fun s i' wr => ∃ (k m : Nat), k ≤ n ∧ i' = .int .i64 k ∧ s = .int .i64 m ∧ Aside (m = (allBits (xs.take k)).length) ∧ Below w.heap.size w wr) (fun _ i' _ => n - (intOf i').toNat)
  case atStart => exact ⟨0, 0, Nat.zero_le _, rfl, rfl, rfl, Below.refl _ _⟩
  case round =>
    obtain ⟨k, m, hk, rfl, rfl, hm, hB⟩ := hrel
    have hsz := hB.size
    have hmb : m ≤ 128 * k := by rw [hm.out]; exact len_bound xs HO.out k (by rw [HL.out]; exact hk)
    by_cases hlt : k < n
    · obtain ⟨b, off, hA, hbs, hcells⟩ := (HR.out.below hB).2.2 (by omega)
      subst hA
      obtain ⟨q0, q1, q2⟩ := hcells k (by omega)
      rw [← Nat.add_assoc] at q1 q2
      obtain ⟨x, hx⟩ : ∃ x, x = xs.getD k zeroNum := ⟨_, rfl⟩
      rw [← hx] at q0 q1 q2
      have hwf := HW.out k (by omega)
      rw [← hx] at hwf
      have hk0 : (0 : Int) ≤ (k : Int) := by omega
      have hk1 : (k : Int) < (n : Int) := by omega
      clear hcells
      have hok := HO.out k (by rw [HL.out]; exact hlt)
      rw [← hx] at hok
      have HC : Aside (∀ V, Calls Tryz.prog 40 #[x.v] V fun e w' => e = .returned (.bool true) ∧ Below V.heap.size V w') := fun V => check_good x hwf hok V
      have hW1 := hok.1
      have hW2 := hok.2.1
      obtain ⟨d, hd⟩ : ∃ d : Nat, x.W = (d : Int) := ⟨x.W.toNat, by omega⟩
      have HS : Aside ((allBits (xs.take (k + 1))).length = (allBits (xs.take k)).length + d) := by
        show _ = _
        rw [allBits_len_succ _ _ (by rw [HL.out]; exact hlt), ← hx, hd]
        rfl
      clear hx hwf hok
      obtain ⟨W, hi', lo⟩ := x
      unfold Num.v at HC
      simp only at q0 q1 q2 HC hW1 hW2 hd
      subst hd
      go_wp2_with fail
      refine Calls.mono (HC.out _) ?_
      rintro e w5 ⟨rfl, hb5⟩
      have h6 := (hb5.block wr.heap.size (by simp)).trans (heap_alloc_new wr (.cells #[.int .i64 (d : Int), .int .u64 hi', .int .u64 lo] 79))
      have p0 := cellOf h6 0
      simp only [List.getElem?_toArray, List.getElem?_cons_zero] at p0
      clear h6
      have hadd : (m : Int) + (d : Int) ≤ 9223372036854775807 := by omega
      have hadd0 : (0 : Int) ≤ (m : Int) + (d : Int) := by omega
      go_wp2
      go_roundw
      case rel => exact ⟨k + 1, m + d, by omega, by go_num, by go_num, by show _ = _; rw [HS.out, ← hm.out], (hB.alloc hsz _).trans (hb5.mono (by simp; omega))⟩
      case measure => simp [intOf]; omega
    · obtain rfl : k = n := by omega
      have hmm : 524288 < m := by
        rw [hm.out, show xs.take k = xs from List.take_of_length_le (by rw [HL.out]; exact Nat.le_refl _)]; exact HBIG.out
      have hd : decide (524288 < (m : Int)) = true := decide_eq_true (by omega)
      go_wp2
      go_ret2
      exact ⟨rfl, hB⟩
end Go.Proofs.YtmoakgkoahjijaaGreatDoor

/- A region that draws its order, within a round of a range over a function, by the laws of such a region elsewhere. -/
set_option linter.unusedVariables false
set_option linter.unusedSimpArgs false
namespace Go.Proofs.YtmoakgkoahjijaaGreatDoor
open Go.RowKit

variable {P : Program} {n l : Nat}

theorem rowsIn_round {row : String} {args : Array Value} {w : World} {R : Value → World → Prop} (h : Rows P row args w R) : RowsIn (Fence.wide.inRound l) n P row args w R :=
  fun c cs _ => let ⟨v, w', r, s⟩ := h c cs; ⟨v, w', r, stepsIn_wide.2 s⟩
theorem opIn_round {o : Oper} {a : Act} {w : World} {K K' : Act → World → Prop} {Q : Exit → Act → World → Prop} (hd : ∀ c, o.op ≠ .defer c) (h : ∀ a w, K a w → K' a w) (hh : o.wp P a w K Q) : o.wpIn (Fence.wide.inRound l) n P a w K' Q := by
  unfold Oper.wp at hh
  refine ⟨fun _ _ => trivial, ?_⟩
  rw [Oper.semAt_eq _ _ _ hd]
  generalize (execOp a.eval o).run P w = r at *
  cases r with
  | ok x w' =>
    cases x <;> simp only [Oper.upon] at hh <;> simp only [Oper.uponIn]
    case enter f args =>
      refine ⟨fun h => by simp [Fence.inRound, Fence.wide] at h, CallsIn.inRound l (callsIn_wide.2 (hh.mono fun e w'' he => ?_))⟩
      cases e <;> first | exact h _ _ he | exact he
    case row row args => exact ⟨fun h => by simp [Fence.inRound, Fence.wide] at h, rowsIn_round (hh.mono fun v w'' hk => h _ _ hk)⟩
    all_goals first | exact h _ _ hh | exact hh
  | halt x w' => cases x <;> simp only [Oper.upon] at hh <;> simp only [Oper.uponIn] <;> exact hh
theorem wpOpIn_round {ops : Array Oper} {i : Nat} {a : Act} {w : World} {K K' : Act → World → Prop} {Q : Exit → Act → World → Prop} (hd : ∀ (j : Nat) o, ops[j]? = some o → ∀ c, o.op ≠ .defer c) (hQ : ¬ LetsOut Q) (h : ∀ a w, K a w → K' a w) (hh : wpOp P ops Q i K a w) : wpOpIn (Fence.wide.inRound l) n P ops Q i K' a w := by
  unfold wpOp at hh
  unfold wpOpIn
  split
  · rename_i ho; simp only [ho] at hh; exact h _ _ hh
  · rename_i o ho
    simp only [ho] at hh
    split
    · rename_i hw
      simp only [hw, if_true] at hh
      rcases hh with hh | ⟨_, hh⟩
      · exact opIn_round (hd i o ho) h hh
      · exact absurd hh hQ
    · rename_i hw
      simp only [hw] at hh
      exact ⟨fun _ _ => trivial, h _ _ hh⟩
theorem wpAnyIn_round {ops : Array Oper} {md : Region.Mode} {Q : Exit → Act → World → Prop} (hd : ∀ (j : Nat) o, ops[j]? = some o → ∀ c, o.op ≠ .defer c) (hQ : ¬ LetsOut Q) : ∀ (fuel : Nat) (listed : Array Bool) (a : Act) (w : World),
    wpAny P md ops Q fuel listed a w → wpAnyIn (Fence.wide.inRound l) n P md ops Q fuel listed a w
  | 0, _, _, _, h => h
  | fuel + 1, _, _, _, h => ⟨h.1, fun i hi => wpOpIn_round hd hQ (fun a' w' => wpAnyIn_round hd hQ fuel _ a' w') (h.2 i hi)⟩
def noDeferB (l : List Oper) : Bool := l.all fun o => match o.op with | .defer _ => false | _ => true
theorem noDeferB_spec {l : List Oper} (h : noDeferB l = true) : ∀ (j : Nat) o, l.toArray[j]? = some o → ∀ c, o.op ≠ .defer c := by
  intro j o ho c e
  have hm : o ∈ l := by simpa using Array.mem_of_getElem? ho
  have := List.all_eq_true.1 h o hm
  simp [e] at this
theorem wpIn_region_round {id : Nat} {a : Act} {w : World} {Q : Exit → Act → World → Prop} {l0 : List Oper} (hm : P.follows .mixedOrders = true) (hd : noDeferB l0 = true) (hQ : ¬ LetsOut Q)
    (h : wpAny P .any l0.toArray Q l0.toArray.size (Array.replicate l0.toArray.size false) a { w with drawn := w.drawn + 1 }) : (Code.region id l0.toArray true).wpIn (Fence.wide.inRound l) n P Q a w :=
  wpIn_region_any hm (wpAnyIn_round (noDeferB_spec hd) hQ _ _ _ _ h)

/-- All but the last few only read. -/
theorem wpIn_region_still_tail {id : Nat} {Q : Exit → Act → World → Prop} {a : Act} {w : World} {l0 : List Oper} (k : Nat) (hm : P.follows .mixedOrders = true) (hB : Region.lexTailB .any l0.toArray k = true) (hd : noDeferB l0 = true) (hQ : ¬ LetsOut Q)
    (h : wpStill P l0.toArray { w with drawn := w.drawn + 1 } (fun a' => wpList P l0.toArray Q (l0.drop k) a' { w with drawn := w.drawn + 1 }) (l0.take k) a) : (Code.region id l0.toArray true).wpIn (Fence.wide.inRound l) n P Q a w := by
  simp only [Region.lexTailB, Bool.and_eq_true, decide_eq_true_eq] at hB
  obtain ⟨⟨⟨⟨hsel, hn⟩, hs⟩, hc⟩, hlex⟩ := hB
  have hn' : k < l0.length := by simpa using hn
  have htl : (l0.take k).length = k := by simp; omega
  have hdl : (l0.drop k).length = l0.toArray.size - k := by simp
  have inv0 : HeadInv .any l0.toArray k (Array.replicate l0.toArray.size false) :=
    ⟨by simp, fun j oj _ hl => (by rw [getD_replicate_false] at hl; cases hl), fun t _ ht => getD_in (by simpa using ht) (getD_replicate_false _ _)⟩
  have H := wpAnyL_lex (md := .any) (g := l0.toArray.size - k) hsel hs hc hn (l0.take k) 0 _ a (fun j hj => by
    have hj' : j < k := by rw [htl] at hj; exact hj
    simp [hj']) (by simpa using htl) inv0 (by rw [htl]; exact hlex) h
  refine wpIn_region_round hm hd hQ ?_
  have := wpAny_of_head (Q' := Q) (g := l0.toArray.size - k) (fun listed a' hL => by
    have := wpAny_of_seq (md := .any) (Q' := Q) (l0.drop k) k listed a' { w with drawn := w.drawn + 1 } (fun j => by simp [List.getElem?_drop]) (by rw [hdl]; exact hL.1) hL.2
    rwa [hdl] at this) _ _ _ H
  rw [htl, show k + (l0.toArray.size - k) = l0.toArray.size by omega] at this
  exact this
/-- All only read. -/
theorem wpIn_region_quiet_lit {id : Nat} {Q : Exit → Act → World → Prop} {a : Act} {w : World} {l0 : List Oper} (hm : P.follows .mixedOrders = true) (hB : Region.lexB .any l0.toArray = true) (hd : noDeferB l0 = true) (hQ : ¬ LetsOut Q)
    (h : wpQuiet P l0.toArray (fun w' => ∃ n, w' = w.drewN n) (fun a' => ∀ w', (∃ n, w' = w.drewN n) → Q .normal a' w') l0 a) : (Code.region id l0.toArray true).wpIn (Fence.wide.inRound l) n P Q a w := by
  simp only [Region.lexB, Bool.and_eq_true] at hB
  refine wpIn_region_round hm hd hQ (wpAny_of_quiet (C := fun w' => ∃ n, w' = w.drewN n) (Q := fun a' => ∀ w', (∃ n, w' = w.drewN n) → Q .normal a' w') (fun _ w' hw' h => h w' hw') _ _ _ _ ⟨1, rfl⟩ ?_)
  have := wpAnyQ_lex (C := fun w' => ∃ n, w' = w.drewN n) (md := .any) hB.1 l0 0 (Array.replicate l0.toArray.size false) a (by simp) (by simpa using hB.2) h
  simpa using this
end Go.Proofs.YtmoakgkoahjijaaGreatDoor

/- packet.Put, of numbers that may be. -/
set_option linter.unusedVariables false
set_option linter.unusedSimpArgs false
namespace Go.Proofs.YtmoakgkoahjijaaGreatDoor
open Go.RowKit Go.Shelf PkMath
attribute [local go_sem] Oper.semAt_some

theorem makeFull_u8 (m : Nat) (h : m ≤ 140737488355328) : ∀ W : World, (Instr.makeSlice 24 (.int .i64 (m : Int)) (.int .i64 (m : Int))).run Tryz.prog W = .ok (.slice (some ⟨W.heap.size, 0, none⟩) m m) (W.alloc (.cells (madeCells #[.int .u8 0] m) 5)) := by
  intro W
  obtain ⟨i, hi, hzz⟩ := Option.map_eq_some_iff.1 infoByte
  simp only [Prod.mk.injEq] at hzz
  obtain ⟨hz, hs, hb⟩ := hzz
  have := run_make (P := Tryz.prog) W 24 5 i (.int .u8 0) Tryz.underlying24 hi hz .i64 .i64 m m (by omega) (by omega) (by rw [hb]; omega) (by omega)
  rw [hs] at this
  simpa [Value.cells] using this

/-- What Put's loop holds: the bytes, and how many bits were put. -/
def PutAt (B g M : Nat) (bs : List Bool) (W : World) : Prop :=
  (∃ cs : Array Value, cs.size = M ∧ cs.toList = nums .u8 (pack bs M) ∧ W.heap[g]? = some (.cells cs 5 (0, 0))) ∧ Boxed W (g + 1) 24 (.slice (some ⟨g, 0, none⟩) M M) ∧ Boxed W (g + 1 + 1) 3 (.int .i64 (bs.length : Nat))
theorem PutAt.own (B g M : Nat) : Own (PutAt B g M) := by
  rintro bs X Y row ⟨⟨cs, h1, h2, h3⟩, h4, h5⟩ hg hr
  have key : ∀ (k : Nat) (cs : Array Value) (t : TypeId) (fr : Nat × Nat), X.heap[k]? = some (.cells cs t fr) → Y.heap[k]? = some (.cells cs t fr) := fun k cs t fr hk => by
    refine (hg.block k (Array.getElem?_eq_some_iff.1 hk).1 (fun e => ?_)).trans hk
    obtain ⟨o, ho, hc⟩ := hr k e.symm
    rw [hk] at ho; cases ho; cases hc
  exact ⟨⟨cs, h1, h2, key _ _ _ _ h3⟩, key _ _ _ _ h4, key _ _ _ _ h5⟩

theorem pack_false (l : List Bool) (m : Nat) : pack (l ++ [false]) m = pack l m := by
  unfold pack
  apply List.map_congr_left
  intro j _
  rw [packByte_false]
theorem pack_true (l : List Bool) (m : Nat) (h : l.length / 8 < m) : pack (l ++ [true]) m = (pack l m).set (l.length / 8) ((packByte l (l.length / 8) ||| 2 ^ (7 - l.length % 8) : Nat) : Int) := by
  apply List.ext_getElem (by rw [List.length_set, pack_length, pack_length])
  intro j h1 h2
  rw [pack_length] at h1
  have e1 := pack_getD (l ++ [true]) m j h1
  rw [List.getD_eq_getElem?_getD, List.getElem?_eq_getElem (by rw [pack_length]; exact h1)] at e1
  simp only [Option.getD_some] at e1
  rw [e1, List.getElem_set]
  split
  · rename_i e; subst e; rw [packByte_or]
  · rename_i e
    rw [packByte_other _ _ _ (Ne.symm e)]
    have e2 := pack_getD l m j h1
    rw [List.getD_eq_getElem?_getD, List.getElem?_eq_getElem (by rw [pack_length]; exact h1)] at e2
    simp only [Option.getD_some] at e2
    rw [e2]
theorem or_u8 (a b : Nat) (ha : a < 256) (hb : b < 256) : bits .or .u8 (a : Int) (b : Int) = ((a ||| b : Nat) : Int) := by
  show IntKind.u8.wrap ((BitVec.ofInt 8 (a : Int) ||| BitVec.ofInt 8 (b : Int)).toNat : Int) = _
  rw [BitVec.ofInt_natCast, BitVec.ofInt_natCast, BitVec.toNat_or, BitVec.toNat_ofNat, BitVec.toNat_ofNat, Nat.mod_eq_of_lt ha, Nat.mod_eq_of_lt hb]
  have h := Nat.or_lt_two_pow (n := 8) ha hb
  rw [IntKind.wrap_u8]
  omega
theorem shr_128 (r : Nat) (hr : r < 8) : (128 : Int) / 2 ^ r = ((2 ^ (7 - r) : Nat) : Int) := by
  obtain rfl | rfl | rfl | rfl | rfl | rfl | rfl | rfl : r = 0 ∨ r = 1 ∨ r = 2 ∨ r = 3 ∨ r = 4 ∨ r = 5 ∨ r = 6 ∨ r = 7 := by omega
  all_goals decide
theorem or_128 (q r : Nat) (hq : q < 256) (hr : r < 8) : bits .or .u8 (q : Int) ((128 : Int) / 2 ^ r) = ((q ||| 2 ^ (7 - r) : Nat) : Int) := by
  rw [shr_128 r hr, or_u8 _ _ hq (Nat.lt_of_lt_of_le (Nat.pow_lt_pow_right (by decide) (by omega : 7 - r < 8)) (by decide))]

theorem put_false {B g M : Nat} {pre : List Bool} {w W : World} {a : Nat} (hg : B ≤ g) (h : PutAt B g M pre W) (hB : Below B w W) (ha : a = pre.length) (n : Nat) :
    KeepsOthers W (W.setCell ⟨g + 1 + 1, 0, none⟩ (.int .i64 ((a : Int) + 1))) ∧ KeepC (fun b => b = g ∨ b = g + 1 + 1) W (W.setCell ⟨g + 1 + 1, 0, none⟩ (.int .i64 ((a : Int) + 1))) ∧ PutAt B g M (pre ++ [false]) (W.setCell ⟨g + 1 + 1, 0, none⟩ (.int .i64 ((a : Int) + 1))) ∧ Below B w (W.setCell ⟨g + 1 + 1, 0, none⟩ (.int .i64 ((a : Int) + 1))) := by
  obtain ⟨⟨cs, h1, h2, h3⟩, h4, h5⟩ := h
  refine ⟨KeepsOthers.setCell _ _ _, KeepC.ofFoot ((Foot.refl _ W).setCell (p := ⟨_, _, _⟩) (.inl (.inr rfl)) _), ⟨⟨cs, h1, by rw [pack_false]; exact h2, ?_⟩, ?_, ?_⟩, hB.setCell (p := ⟨_, _, _⟩) (by show B ≤ g + 1 + 1; omega) _⟩
  · rw [Below.heap_setCell _ _ _ _ (by show g ≠ g + 1 + 1; omega)]; exact h3
  · show _ = _
    rw [Below.heap_setCell _ _ _ _ (by show g + 1 ≠ g + 1 + 1; omega)]; exact h4
  · have := h5.set (.int .i64 ((a : Int) + 1))
    rw [List.length_append, List.length_singleton, ← ha]
    exact this
theorem put_true {B g M : Nat} {pre : List Bool} {w W : World} {a j r q : Nat} (hg : B ≤ g) (h : PutAt B g M pre W) (hB : Below B w W) (ha : a = pre.length) (hj : j = a / 8) (hr : r = a % 8) (hq : q = packByte pre j) (hjM : j < M) :
    KeepsOthers W ((W.setCell ⟨g, j, none⟩ (.int .u8 (bits .or .u8 (q : Int) ((128 : Int) / 2 ^ r)))).setCell ⟨g + 1 + 1, 0, none⟩ (.int .i64 ((a : Int) + 1))).drew ∧ KeepC (fun b => b = g ∨ b = g + 1 + 1) W ((W.setCell ⟨g, j, none⟩ (.int .u8 (bits .or .u8 (q : Int) ((128 : Int) / 2 ^ r)))).setCell ⟨g + 1 + 1, 0, none⟩ (.int .i64 ((a : Int) + 1))).drew ∧ PutAt B g M (pre ++ [true]) ((W.setCell ⟨g, j, none⟩ (.int .u8 (bits .or .u8 (q : Int) ((128 : Int) / 2 ^ r)))).setCell ⟨g + 1 + 1, 0, none⟩ (.int .i64 ((a : Int) + 1))).drew ∧ Below B w ((W.setCell ⟨g, j, none⟩ (.int .u8 (bits .or .u8 (q : Int) ((128 : Int) / 2 ^ r)))).setCell ⟨g + 1 + 1, 0, none⟩ (.int .i64 ((a : Int) + 1))).drew := by
  obtain ⟨⟨cs, h1, h2, h3⟩, h4, h5⟩ := h
  have hq8 : q < 256 := by rw [hq]; exact packByte_lt _ _
  rw [or_128 q r hq8 (by omega)]
  refine ⟨((KeepsOthers.setCell _ _ _).trans (KeepsOthers.setCell _ _ _)).trans (KeepsOthers.drew _), KeepC.ofFoot (((Foot.refl _ W).setCell (p := ⟨_, _, _⟩) (.inl (.inl rfl)) _).setCell (p := ⟨_, _, _⟩) (.inl (.inr rfl)) _).drew, ⟨⟨cs.setIfInBounds j (.int .u8 ((q ||| 2 ^ (7 - r) : Nat) : Int)), by simpa using h1, ?_, ?_⟩, ?_, ?_⟩, ((hB.setCell (p := ⟨_, _, _⟩) hg _).setCell (p := ⟨_, _, _⟩) (by show B ≤ g + 1 + 1; omega) _).drew⟩
  · rw [pack_true _ _ (by omega), Array.toList_setIfInBounds, h2, nums, nums, List.map_set, ← ha, ← hj, ← hr, ← hq]
  · show ((W.setCell _ _).setCell _ _).heap[g]? = _
    rw [Below.heap_setCell _ _ _ _ (by show g ≠ g + 1 + 1; omega)]
    exact setCell_heap h3 j _
  · show ((W.setCell _ _).setCell _ _).heap[g + 1]? = _
    rw [Below.heap_setCell _ _ _ _ (by show g + 1 ≠ g + 1 + 1; omega), Below.heap_setCell _ _ _ _ (by show g + 1 ≠ g; omega)]
    exact h4
  · have h5' : Boxed (W.setCell ⟨g, j, none⟩ (.int .u8 ((q ||| 2 ^ (7 - r) : Nat) : Int))) (g + 1 + 1) 3 (.int .i64 (pre.length : Nat)) := by
      show _ = _
      rw [Below.heap_setCell _ _ _ _ (by show g + 1 + 1 ≠ g; omega)]; exact h5
    have := h5'.set (.int .i64 ((a : Int) + 1))
    rw [List.length_append, List.length_singleton, ← ha]
    exact this

theorem all_stops (F : Nat → Prop) (Bn : Nat) (A : Option Addr) (n c : Nat) (xs : List Num) (w : World) (hF : 0 < n → ∀ ad, A = some ad → ¬ F ad.block) (hFB : ¬ F Bn) (hFW : ∀ k, F k → k < w.heap.size) (hB : Bn < w.heap.size) (hwf : ∀ j, j < n → (xs.getD j zeroNum).wf ∧ (xs.getD j zeroNum).ok)
    (hBn : w.cell? ⟨Bn, 0, none⟩ = some (.slice A n c)) (hR : ReadsNums w A n xs) :
    SeqStopsK Fence.wide 2 Tryz.prog 144 #[.pointer (some ⟨Bn, 0, none⟩)] (fun x : Bool => #[.bool x]) (KeepC F) (fun ys => ys = allBits xs) (fun pre => pre <+: allBits xs) (allBits xs).length w :=
  fun l J Jx W hW hJ _ hY h0 => all1_in F l Bn A n c xs hF hFB hwf J Jx W (fun k hk => Nat.lt_of_lt_of_le (hFW k hk) hW.size) hJ hY ((hW.cell (p := ⟨Bn, 0, none⟩) hB).trans hBn) (hR.below hW) h0

theorem alloc4 (w : World) (a b c d : Obj) : ((((w.alloc a).alloc b).alloc c).alloc d).heap[w.heap.size]? = some a ∧ ((((w.alloc a).alloc b).alloc c).alloc d).heap[w.heap.size + 1]? = some b ∧ ((((w.alloc a).alloc b).alloc c).alloc d).heap[w.heap.size + 1 + 1]? = some c ∧ ((((w.alloc a).alloc b).alloc c).alloc d).heap[w.heap.size + 1 + 1 + 1]? = some d ∧ ((((w.alloc a).alloc b).alloc c).alloc d).heap.size = w.heap.size + 4 := by
  have s1 : (w.alloc a).heap.size = w.heap.size + 1 := by simp
  have s2 : ((w.alloc a).alloc b).heap.size = w.heap.size + 2 := by simp
  have s3 : (((w.alloc a).alloc b).alloc c).heap.size = w.heap.size + 3 := by simp
  have s4 : ((((w.alloc a).alloc b).alloc c).alloc d).heap.size = w.heap.size + 4 := by simp
  refine ⟨?_, ?_, ?_, ?_, s4⟩
  · rw [Below.heap_alloc _ _ _ (by omega), Below.heap_alloc _ _ _ (by omega), Below.heap_alloc _ _ _ (by omega)]; exact heap_alloc_new _ _
  · rw [Below.heap_alloc _ _ _ (by omega), Below.heap_alloc _ _ _ (by omega)]
    have := heap_alloc_new (w.alloc a) b
    rwa [s1] at this
  · rw [Below.heap_alloc _ _ _ (by omega)]
    have := heap_alloc_new ((w.alloc a).alloc b) c
    rwa [s2] at this
  · have := heap_alloc_new (((w.alloc a).alloc b).alloc c) d
    rwa [s3] at this
theorem packByte_nil (j : Nat) : packByte [] j = 0 := numOf_zeros _ (fun q => by
  by_cases h : q < 8
  · rw [byteAt_getD _ _ _ h]; rfl
  · exact getD_past _ _ (by rw [byteAt_length]; omega))
theorem made_pack (M : Nat) : (madeCells #[.int .u8 0] M).toList = nums .u8 (pack [] M) := by
  unfold nums pack
  rw [madeCells, List.map_map, Array.toList_map, Array.toList_range]
  apply List.map_congr_left
  intro i _
  simp [packByte_nil, Nat.mod_one]

set_option maxRecDepth 100000 in
set_option maxHeartbeats 4000000 in
theorem Put_ok (A : Option Addr) (n c : Nat) (xs : List Num) (w : World) (hR : ReadsNums w A n xs) (hn : n ≤ 1048576) (hwf : ∀ j, j < n → (xs.getD j zeroNum).wf) (hok : allOk xs) (hbig : (allBits xs).length ≤ 524288) :
    Calls Tryz.prog 7 #[.slice A n c] w fun e w' => ∃ v, e = .returned (.tuple #[v, .int .i64 0]) ∧ w'.ownsRow w.heap.size 5 1 v (((allBits xs).length + 7) / 8) (nums .u8 (pack (allBits xs) (((allBits xs).length + 7) / 8))) ∧ Below w.heap.size w w' := by
  have HR : Aside (ReadsNums w A n xs) := hR
  have HL : Aside (xs.length = n) := hR.1
  have HW : Aside (∀ j, j < n → (xs.getD j zeroNum).wf) := hwf
  have HO : Aside (allOk xs) := hok
  have HBIG : Aside ((allBits xs).length ≤ 524288) := hbig
  clear hR hwf hok hbig
  refine (callsIn_wide (n := 3)).1 ?_
  refine callsIn_of_wp_marks Tryz.func7 rfl trivial ?_ rfl
  simp only [Tryz.ntmps7, List.size_toArray, List.length_cons, List.length_nil, Nat.reduceAdd, Nat.reduceSub, Array.replicate_succ, Array.replicate_zero, List.push_toArray, List.append_toArray, List.nil_append, List.cons_append]
  gi_wp2
  gi_loopw [4, 12] (fun s i' wr => ∃ (k m : Nat), k ≤ n ∧ i' = .int .i64 k ∧ s = .int .i64 m ∧ Aside (m = (allBits (xs.take k)).length) ∧ Below w.heap.size w wr) (fun _ i' _ => n - (intOf i').toNat)
  case atStart => exact ⟨0, 0, Nat.zero_le _, rfl, rfl, rfl, Below.refl _ _⟩
  case round =>
    obtain ⟨k, m, hk, rfl, rfl, hm, hB⟩ := hrel
    have hsz := hB.size
    have hmb : m ≤ 128 * k := by rw [hm.out]; exact len_bound xs HO.out k (by rw [HL.out]; exact hk)
    by_cases hlt : k < n
    · obtain ⟨b, off, hA, hbs, hcells⟩ := (HR.out.below hB).2.2 (by omega)
      subst hA
      obtain ⟨q0, q1, q2⟩ := hcells k (by omega)
      rw [← Nat.add_assoc] at q1 q2
      obtain ⟨x, hx⟩ : ∃ x, x = xs.getD k zeroNum := ⟨_, rfl⟩
      rw [← hx] at q0 q1 q2
      have hwf := HW.out k (by omega)
      rw [← hx] at hwf
      have hk0 : (0 : Int) ≤ (k : Int) := by omega
      have hk1 : (k : Int) < (n : Int) := by omega
      clear hcells
      have hok := HO.out k (by rw [HL.out]; exact hlt)
      rw [← hx] at hok
      have HC : Aside (∀ V, Calls Tryz.prog 40 #[x.v] V fun e w' => e = .returned (.bool true) ∧ Below V.heap.size V w') := fun V => check_good x hwf hok V
      have hW1 := hok.1
      have hW2 := hok.2.1
      obtain ⟨d, hd⟩ : ∃ d : Nat, x.W = (d : Int) := ⟨x.W.toNat, by omega⟩
      have HS : Aside ((allBits (xs.take (k + 1))).length = (allBits (xs.take k)).length + d) := by
        show _ = _
        rw [allBits_len_succ _ _ (by rw [HL.out]; exact hlt), ← hx, hd]
        rfl
      clear hx hwf hok
      obtain ⟨W, hi', lo⟩ := x
      unfold Num.v at HC
      simp only at q0 q1 q2 HC hW1 hW2 hd
      subst hd
      gi_wp2_with fail
      refine ⟨trivial, ?_⟩
      refine CallsIn.mono (callsIn_wide.2 (HC.out _)) ?_
      rintro e w5 ⟨rfl, hb5⟩
      have h6 := (hb5.block wr.heap.size (by simp)).trans (heap_alloc_new wr (.cells #[.int .i64 (d : Int), .int .u64 hi', .int .u64 lo] 79))
      have p0 := cellOf h6 0
      simp only [List.getElem?_toArray, List.getElem?_cons_zero] at p0
      clear h6
      have hadd : (m : Int) + (d : Int) ≤ 9223372036854775807 := by omega
      have hadd0 : (0 : Int) ≤ (m : Int) + (d : Int) := by omega
      gi_wp2
      go_roundw
      case rel => exact ⟨k + 1, m + d, by omega, by go_num, by go_num, by show _ = _; rw [HS.out, ← hm.out], (hB.alloc hsz _).trans (hb5.mono (by simp; omega))⟩
      case measure => simp [intOf]; omega
    · obtain rfl : k = n := by omega
      have hm' : m = (allBits xs).length := by
        rw [hm.out, show xs.take k = xs from List.take_of_length_le (by rw [HL.out]; exact Nat.le_refl _)]
      have hmm : m ≤ 524288 := by rw [hm']; exact HBIG.out
      have hd : decide (524288 < (m : Int)) = false := decide_eq_false (by omega)
      obtain ⟨M, hM⟩ : ∃ M, M = (m + 7) / 8 := ⟨_, rfl⟩
      have s1 : ((m : Int) + 7) / 8 = (M : Int) := by omega
      have hmk := makeFull_u8 M (by omega)
      have HM : Aside (M = (m + 7) / 8 ∧ m = (allBits xs).length) := ⟨hM, hm'⟩
      clear hM hm'
      gi_wp2_with fail
      refine ⟨trivial, ?_⟩
      refine CallsIn.mono (callsIn_wide.2 (all_any _ _ _ _)) ?_
      rintro e w5 ⟨rfl, rfl⟩
      generalize hg : wr.heap.size = g at *
      have HG : Aside (w.heap.size ≤ g) := hsz
      have HRB : Aside (0 < k → ∀ ad, A = some ad → ad.block < w.heap.size) := by
        intro hk0 ad had
        obtain ⟨b, off, h1, h2, _⟩ := HR.out.2.2 hk0
        rw [had] at h1
        injection h1 with h1
        rw [h1]
        exact h2
      have hA4 := alloc4 wr (.cells (madeCells #[.int .u8 0] M) 5) (.cells #[.slice (some ⟨g, 0, none⟩) M M] 24) (.cells #[.int .i64 0] 3) (.cells #[.slice A k c] 22)
      rw [hg] at hA4
      have hVB : Below w.heap.size w ((((wr.alloc (.cells (madeCells #[.int .u8 0] M) 5)).alloc (.cells #[.slice (some ⟨g, 0, none⟩) M M] 24)).alloc (.cells #[.int .i64 0] 3)).alloc (.cells #[.slice A k c] 22)) :=
        (((hB.alloc (by omega) _).alloc (by simp; omega) _).alloc (by simp; omega) _).alloc (by simp; omega) _
      have hVc : ((((wr.alloc (.cells (madeCells #[.int .u8 0] M) 5)).alloc (.cells #[.slice (some ⟨g, 0, none⟩) M M] 24)).alloc (.cells #[.int .i64 0] 3)).alloc (.cells #[.slice A k c] 22)).cell? ⟨g + 1 + 1 + 1, 0, none⟩ = some (.slice A k c) := cellOf hA4.2.2.2.1 0
      have hVs := hA4.2.2.2.2
      have hV0 : PutAt w.heap.size g M [] ((((wr.alloc (.cells (madeCells #[.int .u8 0] M) 5)).alloc (.cells #[.slice (some ⟨g, 0, none⟩) M M] 24)).alloc (.cells #[.int .i64 0] 3)).alloc (.cells #[.slice A k c] 22)) :=
        ⟨⟨_, by simp [size_madeCells], made_pack M, hA4.1⟩, hA4.2.1, hA4.2.2.1⟩
      clear hA4
      gi_wp2_with fail
      generalize ((((wr.alloc (.cells (madeCells #[.int .u8 0] M) 5)).alloc (.cells #[.slice (some ⟨g, 0, none⟩) M M] 24)).alloc (.cells #[.int .i64 0] 3)).alloc (.cells #[.slice A k c] 22)) = V at *
      refine range_own rfl (by decide) (gf := 144) (lb := #[.pointer (some ⟨g + 1 + 1 + 1, 0, none⟩)]) rfl trivial (enters_of Tryz.func144 (by kernel_rfl) rfl)
        (all_stops (fun b => b = g ∨ b = g + 1 + 1) (g + 1 + 1 + 1) A k c xs V ?hF (by omega) (by intro b hb; omega) (by omega) (fun j hj => ⟨HW.out j hj, HO.out j (by rw [HL.out]; exact hj)⟩) hVc (HR.out.below hVB)) KeepC.trans (keepC_b _ _) (Below.refl _ _) (fun _ => rfl)
        (fun pre W => PutAt w.heap.size g M pre W ∧ Below w.heap.size w W) (fun _ _ _ => False)
        (OwnFrom.and ((PutAt.own w.heap.size g M).from _) (ownFrom_below (Nat.le_refl _) (by omega))) (fun _ _ _ _ _ hs _ _ => hs) ⟨hV0, hVB⟩ ?round ?done ?stop
      case hF =>
        intro hk0 ad had hf
        have h1 := HRB.out hk0 ad had
        have h2 := HG.out
        rcases hf with hf | hf <;> omega
      case round =>
        intro x
        apply Exists.intro
        refine ⟨?_, ?_⟩
        · intro l W K hK
          gi_wp2
          exact hK
        · rintro l pre W ⟨⟨⟨cs, hc1, hc2, hc3⟩, hb7, hb8⟩, hBW⟩ hlen
          obtain ⟨a, ha⟩ : ∃ a, a = pre.length := ⟨_, rfl⟩
          have hMa : a < 8 * M := by have := HM.out; omega
          have c7 := hb7.cell
          have c8 := hb8.cell
          have f8 := hb8.frozen
          rw [← ha] at c8
          obtain ⟨j, hj⟩ : ∃ j, j = a / 8 := ⟨_, rfl⟩
          obtain ⟨r, hr⟩ : ∃ r, r = a % 8 := ⟨_, rfl⟩
          have hjM : j < M := by omega
          have hr8 : r < 8 := by omega
          have ha6 : a ≤ 524288 := by have := HM.out; omega
          obtain ⟨q, hq⟩ : ∃ q : Nat, q = packByte pre j := ⟨_, rfl⟩
          have hq8 : q < 256 := by rw [hq]; exact packByte_lt _ _
          have cg : W.cell? ⟨g, j, none⟩ = some (.int .u8 (q : Int)) := by
            rw [cellOf hc3 j, ← Array.getElem?_toList, hc2, nums, List.getElem?_map, hq]
            have := pack_getD pre M j hjM
            rw [List.getD_eq_getElem?_getD, List.getElem?_eq_getElem (by rw [pack_length]; exact hjM)] at this
            simp only [Option.getD_some] at this
            rw [List.getElem?_eq_getElem (by rw [pack_length]; exact hjM), this]
            rfl
          have fg := frozenOf hc3 j
          have HI : Aside (PutAt w.heap.size g M pre W ∧ Below w.heap.size w W ∧ a = pre.length ∧ j = a / 8 ∧ r = a % 8 ∧ q = packByte pre j) := ⟨⟨⟨cs, hc1, hc2, hc3⟩, hb7, hb8⟩, hBW, ha, hj, hr, hq⟩
          have s1 : (a : Int) / 8 = (j : Int) := by omega
          have s2 : (a : Int).tdiv 8 = (j : Int) := by rw [Int.tdiv_eq_ediv_of_nonneg (by omega)]; exact s1
          have s3 : (a : Int) % 8 = (r : Int) := by omega
          have s4 : (a : Int).tmod 8 = (r : Int) := by rw [Int.tmod_eq_emod_of_nonneg (by omega)]; exact s3
          have s5 : (0 : Int) ≤ (j : Int) := by omega
          have s6 : (j : Int) < (M : Int) := by omega
          have s7 : IntKind.i64.wrap (j : Int) = (j : Int) := by rw [IntKind.wrap_i64]; omega
          have s8 : IntKind.i64.wrap (r : Int) = (r : Int) := by rw [IntKind.wrap_i64]; omega
          have s9 : (0 : Int) ≤ (r : Int) := by omega
          clear ha hj hr hq hc1 hc2 hc3 hb7 hb8 hBW
          cases x with
          | false =>
            gi_wp2
            have h := put_false HG.out HI.out.1 HI.out.2.1 HI.out.2.2.1 0
            exact ⟨h.1, h.2.1, h.2.2.1, h.2.2.2⟩
          | true =>
            gi_wp2
            refine wpIn_region_still_tail 10 (by kernel_rfl) (by kernel_rfl) (by kernel_rfl) (fun ⟨_, _, h⟩ => h) ?_
            simp only [List.take_succ_cons, List.take_zero, List.drop_succ_cons, List.drop_zero]
            repeat still_step
            try refine wpStill_nil ?_
            change wpList _ _ _ _ _ W.drew
            go_wp2
            gi_wp2
            have h := put_true HG.out HI.out.1 HI.out.2.1 HI.out.2.2.1 HI.out.2.2.2.1 HI.out.2.2.2.2.1 HI.out.2.2.2.2.2 hjM
            exact ⟨h.1, h.2.1, h.2.2.1, h.2.2.2⟩
      case done =>
        rintro D ys W hD rfl ⟨⟨⟨cs, hc1, hc2, hc3⟩, hb7, hb8⟩, hBW⟩ hK
        have c7 := hb7.cell
        gi_wp2
        refine ⟨by simp, .inl ⟨_, _, rfl, run_takeDeferred hK, ?_⟩⟩
        refine ⟨_, results_tmp2 rfl _ _ _, ?_⟩
        have hrow : W.ownsRow w.heap.size 5 1 (.slice (some ⟨g, 0, none⟩) M M) M (nums .u8 (pack (allBits xs) M)) :=
          ⟨by simp [nums, pack_length], .inr ⟨g, M, cs, rfl, HG.out, hc3, Nat.le_refl _, by unfold maxLen; have := HM.out; omega, by rw [hc1]; omega, by rw [Nat.mul_one, hc2]; exact List.take_of_length_le (by simp [nums, pack_length])⟩⟩
        refine ⟨.slice (some ⟨g, 0, none⟩) M M, rfl, ?_, hBW.trans (belowK_b (w := w) (Nat.le_refl _) W D _ _ (by have := HG.out; omega) hK rfl rfl)⟩
        have e : ((allBits xs).length + 7) / 8 = M := by have := HM.out; omega
        rw [e]
        exact ownsRow_putObj hrow _ hK rfl
      case stop =>
        rintro D c pre W hD hpre h _
        exact h.elim
end Go.Proofs.YtmoakgkoahjijaaGreatDoor

/- A book of bytes: each list is filled with its mark. -/
set_option linter.unusedVariables false
set_option linter.unusedSimpArgs false
namespace Go.Proofs.YtmoakgkoahjijaaGreatDoor
open Go.RowKit

/-- What a book's row shows of list k. -/
theorem Bk.at {W : World} {base b : Nat} {row : Value} {ps : List (Value × Value)} {F : Nat → Nat → Prop} (h : Bk W base b row ps F) {k : Nat} {p : Value × Value} (hp : ps[k]? = some p) :
    ∃ r cr, row = .slice (some ⟨r, 0, none⟩) ps.length cr ∧ r < W.heap.size ∧ ps.length ≤ cr ∧ W.cell? ⟨r, k * 3, none⟩ = some p.1 ∧ W.cell? ⟨r, k * 3 + 1, none⟩ = some p.2 ∧ W.cell? ⟨r, k * 3 + 2, none⟩ = some (.int .i64 ((k : Int) + 1)) := by
  have hlt : k < ps.length := (List.getElem?_eq_some_iff.1 hp).1
  have hr := h.hr
  obtain ⟨r, cr, rfl, _, hr2, hr3, _⟩ := own_some hr (by omega)
  obtain ⟨e1, e2, e3⟩ := flat3_at ps k p hp
  have c := hr.cells (g := r) rfl
  have c1 := c _ _ e1
  have c2 := c _ _ e2
  have c3 := c _ _ e3
  rw [add_plain] at c1 c2 c3
  exact ⟨r, cr, rfl, hr2, hr3, c1, c2, c3⟩
/-- The lists while they are filled: those ahead of k are full of marks. -/
def Fill (W : World) (base : Nat) (ps : List (Value × Value)) (ns : Nat → Nat) (F : Nat → Nat → Prop) (k : Nat) : Prop :=
  ∀ j p, ps[j]? = some p → p.2 = .slice none 0 0 ∧ (j < k → L2 W base (F j) p.1 (ns j) j) ∧ (k ≤ j → L1 W base (F j) p.1 (ns j))
theorem marks_take (xs : List Int) (m : Nat) (x : Int) (hm : m < xs.length) (h : xs.take m = List.replicate m x) : (xs.set m x).take (m + 1) = List.replicate (m + 1) x := by
  rw [List.replicate_succ', ← h, List.take_succ_eq_append_getElem (by rw [List.length_set]; exact hm), List.getElem_set_self, List.take_set_of_le (Nat.le_refl _)]
theorem Fill.foot {W W' : World} {base k : Nat} {ps : List (Value × Value)} {ns : Nat → Nat} {F : Nat → Nat → Prop} {G : Nat → Prop} (h : Fill W base ps ns F k) (hf : Foot G W W') (hne : ∀ j q, F j q → ¬ G q) : Fill W' base ps ns F k :=
  fun j p hp => ⟨(h j p hp).1, fun hj => ((h j p hp).2.1 hj).foot hf (hne j), fun hj => ((h j p hp).2.2 hj).foot hf (hne j)⟩
/-- One list more is full. -/
theorem Fill.next {W0 W1 : World} {base k : Nat} {ps : List (Value × Value)} {ns : Nat → Nat} {F : Nat → Nat → Prop} (h : Fill W0 base ps ns F k) (hf : Foot (F k) W0 W1) (hd : ∀ i j q, F i q → F j q → i = j) (h2 : ∀ p, ps[k]? = some p → L2 W1 base (F k) p.1 (ns k) k) : Fill W1 base ps ns F (k + 1) := by
  intro j p hp
  refine ⟨(h j p hp).1, fun hj => ?_, fun hj => ((h j p hp).2.2 (by omega)).foot hf (fun q hq hq' => by have := hd j k q hq hq'; omega)⟩
  rcases Nat.lt_or_ge j k with hlt | hge
  · exact ((h j p hp).2.1 hlt).foot hf (fun q hq hq' => by have := hd j k q hq hq'; omega)
  · obtain rfl : j = k := by omega
    exact h2 p hp
set_option maxRecDepth 100000 in
set_option maxHeartbeats 3200000 in
theorem fill_any (base b : Nat) (row : Value) (ps : List (Value × Value)) (ns : Nat → Nat) (F : Nat → Nat → Prop) (W : World) (h : Bk W base b row ps F) (hN : ps.length ≤ 1000000000) (hns : ∀ j, ns j ≤ 140737488355328) (h1 : Fill W base ps ns F 0) :
    Calls Tryz.prog 46 #[.pointer (some ⟨b, 0, none⟩)] W fun e w' => (∃ u, e = .returned u) ∧ Bk w' base b row ps F ∧ Fill w' base ps ns F ps.length ∧ Foot (fun q => ∃ j, F j q) W w' := by
  have H0 := aside' (And.intro h h1)
  have HNS := aside' hns
  clear h h1 hns
  go_enter Tryz.func46, Tryz.ntmps46
  go_wp2
  go_loopw [2] (fun i wr => ∃ k : Nat, k ≤ ps.length ∧ i = .int .i64 k ∧ Aside (Bk wr base b row ps F ∧ Fill wr base ps ns F k ∧ Foot (fun q => ∃ j, F j q) W wr)) (fun i _ => ps.length - (intOf i).toNat)
  case atStart => exact ⟨0, Nat.zero_le _, rfl, H0.out.1, H0.out.2, Foot.refl _ _⟩
  case round =>
    obtain ⟨k, hk, rfl, HI⟩ := hrel
    have hbc : wr.cell? ⟨b, 2, none⟩ = some row := cellOf HI.out.1.hb 2
    obtain ⟨Ar, Lr, cr0, hrow, HLr⟩ := own_form HI.out.1.hr
    have hLr := HLr.out
    subst hLr
    subst hrow
    by_cases hlt : k < ps.length
    · have g1 : decide ((k : Int) < (ps.length : Int)) = true := decide_eq_true (by omega)
      obtain ⟨p, hp⟩ : ∃ p, ps[k]? = some p := ⟨_, List.getElem?_eq_getElem hlt⟩
      obtain ⟨r, cr, hr, hrl, hcr, e1, e2, e3⟩ := HI.out.1.at hp
      injection hr with hr1 hr2 hr3
      subst hr1
      obtain ⟨xs0, hown0, hF0⟩ := (HI.out.2.1 k p hp).2.2 (Nat.le_refl _)
      have hlg := (HI.out.2.1 k p hp).1
      obtain ⟨v, lg⟩ := p
      simp only at e1 e2 hown0 hF0 hlg
      subst hlg
      obtain ⟨A, n, c, rfl, HLn⟩ := own_form hown0
      have hn := HLn.out
      subst hn
      have hnb := HNS.out k
      have HP := aside' hp
      have HF0 := aside' hF0
      have i0 : (0 : Int) ≤ (k : Int) := by omega
      have i1 : (k : Int) < (ps.length : Int) := by omega
      have HOWN := aside' (hown0.alloc (.cells #[.slice A (ns k) c, .slice none 0 0, .int .i64 ((k : Int) + 1)] 118))
      have HBX := aside' (heap_alloc_new wr (.cells #[.slice A (ns k) c, .slice none 0 0, .int .i64 ((k : Int) + 1)] 118))
      have hxl0 : xs0.length = ns k := by have := hown0.1; simpa [nums] using this
      have HXL := aside' hxl0
      have HQ := aside' (show ¬ F k wr.heap.size from fun e => by have := (HI.out.1.fl k _ e).2.1; omega)
      have hal := (Foot.refl (fun _ => False) wr).alloc (.cells #[.slice A (ns k) c, .slice none 0 0, .int .i64 ((k : Int) + 1)] 118)
      have HB0 := aside' (And.intro (HI.out.1.foot hal (fun h => h) (fun _ _ h => h)) (And.intro (HI.out.2.1.foot hal (fun _ _ _ h => h)) (HI.out.2.2.alloc (.cells #[.slice A (ns k) c, .slice none 0 0, .int .i64 ((k : Int) + 1)] 118))))
      clear hr2 hr3 hown0 hF0 hp hxl0 HLn hal
      generalize hns : ns k = n at *
      go_upto_region 4 with fail
      generalize wr.alloc (.cells #[.slice A n c, .slice none 0 0, .int .i64 ((k : Int) + 1)] 118) = W0 at *
      generalize wr.heap.size = q at *
      clear e1 e2 e3 hbc
      go_wp2_with fail
      go_loopw [4] (fun kk ws => ∃ m : Nat, m ≤ n ∧ kk = .int .i64 m ∧ Aside (∃ xs : List Int, ws.ownsRow base 5 1 (.slice A n c) n (nums .u8 xs) ∧ xs.length = n ∧ xs.take m = List.replicate m (mark k) ∧ Foot (F k) W0 ws)) (fun kk _ => n - (intOf kk).toNat)
      case atStart => exact ⟨0, Nat.zero_le _, rfl, xs0, HOWN.out, HXL.out, rfl, Foot.refl _ _⟩
      case round =>
        obtain ⟨m, hm, rfl, HM⟩ := hrel
        obtain ⟨xs, hown, hxl, htk, hft⟩ := HM.out
        have hbx := hft.blk HBX.out HQ.out
        have b0 : wr.cell? ⟨q, 0, none⟩ = some (.slice A n c) := cellOf hbx 0
        have b2 : wr.cell? ⟨q, 2, none⟩ = some (.int .i64 ((k : Int) + 1)) := cellOf hbx 2
        have HX := aside' (And.intro hown (And.intro hxl (And.intro htk hft)))
        clear hbx HM
        by_cases hlt2 : m < n
        · have g2 : decide ((m : Int) < (n : Int)) = true := decide_eq_true (by omega)
          obtain ⟨g, c', hv, hg1, hg2, hg3, hg4⟩ := own_some hown (by omega)
          injection hv with hv1 hv2 hv3
          subst hv1
          have d0 : wr.drew.cell? ⟨q, 0, none⟩ = some (.slice (some ⟨g, 0, none⟩) n c) := b0
          have d2 : wr.drew.cell? ⟨q, 2, none⟩ = some (.int .i64 ((k : Int) + 1)) := b2
          have dg : wr.drew.cell? ⟨g, m, none⟩ = some (.int .u8 (xs.getD m 0)) := own_at hown m hlt2
          have fg : wr.drew.frozen? ⟨g, m, none⟩ = false := hown.frozenAt m
          have j0 : (0 : Int) ≤ (m : Int) := by omega
          have j1 : (m : Int) < (n : Int) := by omega
          have HNX := aside' (And.intro (own_put hown m (mark k)) (And.intro (marks_take xs m (mark k) (by omega) htk) (hft.setCell (p := ⟨g, m, none⟩) (.inl (HF0.out g rfl)) (.int .u8 (mark k)))))
          have HMK := aside' (fun (V : World) => mark_any k (by omega) V)
          generalize xs.getD m 0 = y at *
          have hmb := mark_bd k
          generalize mark k = mk at *
          clear hown htk hft hv2 hv3
          go_wp2_with fail
          go_region_law ((go_simp; go_at_call 147; refine Calls.mono (HMK.out _) ?_; rintro e w' ⟨rfl, rfl⟩))
          all_goals go_wp2
          all_goals go_roundw
          all_goals first
            | exact ⟨m + 1, by omega, by go_num, xs.set m mk, HNX.out.1, (by rw [List.length_set]; exact HX.out.2.1), HNX.out.2.1, HNX.out.2.2.drewN 1⟩
            | (simp [intOf]; omega)
        · obtain rfl : m = n := by omega
          have g2 : decide ((m : Int) < (m : Int)) = false := decide_eq_false (by omega)
          have hL2 : L2 wr base (F k) (.slice A m c) (ns k) k := ⟨by rw [hns, ← htk, List.take_of_length_le (by omega)]; exact hown, HF0.out⟩
          have hfd := HI.out.1.fl
          have HFIN := aside' (And.intro (HB0.out.1.foot hft (fun e => (hfd k b e).2.2.1 rfl) (fun q' hq' e => (hfd k q' e).2.2.2 hq')) (And.intro (HB0.out.2.1.next hft HI.out.1.fd (fun p' hp' => by rw [HP.out] at hp'; injection hp' with hp'; rw [← hp']; exact hL2)) (HB0.out.2.2.trans hft (fun i hi => .inl ⟨k, hi⟩))))
          clear hown htk hft hL2 hfd
          go_wp2
          go_roundw
          case rel => exact ⟨k + 1, by omega, by go_num, HFIN.out⟩
          case measure => (simp [intOf]; omega)
    · obtain rfl : k = ps.length := by omega
      have g1 : decide ((ps.length : Int) < (ps.length : Int)) = false := decide_eq_false (by omega)
      go_wp2
      go_end0
      exact ⟨⟨_, rfl⟩, HI.out⟩
end Go.Proofs.YtmoakgkoahjijaaGreatDoor

/- A book of bytes: what is known while more is put behind a list. -/
set_option linter.unusedVariables false
set_option linter.unusedSimpArgs false
namespace Go.Proofs.YtmoakgkoahjijaaGreatDoor
open Go.RowKit

theorem own_lt' {W : World} {base n : Nat} {e : TypeId} {size : Nat} {v : Value} {xs : List Value} (ho : W.ownsRow base e size v n xs) {g : Nat} (hg : v.ownBlock = some g) : base ≤ g ∧ g < W.heap.size := by
  rcases ho.2 with ⟨h1, _⟩ | ⟨g', cap, cur, h1, h2, h3, _⟩
  · rw [h1] at hg; cases hg
  · rw [h1] at hg; injection hg with hg; subst hg; exact ⟨h2, (Array.getElem?_eq_some_iff.1 h3).1⟩
theorem reads_keep {w w' : World} {k : IntKind} {A : Option Addr} {n : Nat} {xs : List Int} (h : Reads w k A n xs) (hk : ∀ ad, A = some ad → 0 < n → w'.heap[ad.block]? = w.heap[ad.block]?) : Reads w' k A n xs :=
  ⟨h.1, h.2.1, fun hn => by
    obtain ⟨ad, e, hc⟩ := h.2.2 hn
    exact ⟨ad, e, fun j hj => (World.cell?_of_block (by rw [add_block]; exact hk ad e hn)).trans (hc j hj)⟩⟩
/-- While more is put behind list v: long is a row of the law's own; either it lies in the list's own block, or in a new one, the list being as it was. -/
def GI (W0 : World) (base : Nat) (A : Option Addr) (n c : Nat) (mk : Int) (W : World) (long : Value) (m : Nat) : Prop :=
  W.ownsRow base 5 1 long (n + m) (nums .u8 (List.replicate (n + m) mk)) ∧ Foot (fun q => (Value.slice A n c).ownBlock = some q) W0 W ∧
    Reads W .u8 A n (List.replicate n mk) ∧ (long.ownBlock = (Value.slice A n c).ownBlock ∨ ∃ g, long.ownBlock = some g ∧ W0.heap.size ≤ g)
theorem GI.start {W0 : World} {base : Nat} {F : Nat → Prop} {A : Option Addr} {n c i : Nat} (h : L2 W0 base F (.slice A n c) n i) : GI W0 base A n c (mark i) W0 (.slice A n c) 0 :=
  ⟨by simpa using h.1, Foot.refl _ _, own_rd' h.1, .inl rfl⟩
theorem GI.step {W0 W W1 : World} {base : Nat} {A : Option Addr} {n c m : Nat} {mk : Int} {long v1 : Value} {o : Obj} (h : GI W0 base A n c mk W long m) (hA : ∀ k, (Value.slice A n c).ownBlock = some k → k < W0.heap.size) (hA2 : 0 < n → ∃ g, A = some ⟨g, 0, none⟩)
    (hown : W1.ownsRow base 5 1 v1 (n + m + 1) (nums .u8 (List.replicate (n + m) mk ++ [mk]))) (hg : (W.alloc o).grownBy W1 long.ownBlock) (hat : v1.ownBlock = long.ownBlock ∨ (v1.ownBlock = some (W.alloc o).heap.size ∧ (W.alloc o).grownBy W1 none)) :
    GI W0 base A n c mk W1 v1 (m + 1) := by
  obtain ⟨h1, h2, h3, h4⟩ := h
  have hs := h2.size
  have e : List.replicate (n + m) mk ++ [mk] = List.replicate (n + (m + 1)) mk := by rw [← List.replicate_succ']; rfl
  rw [e] at hown
  have hft : Foot (fun q => (Value.slice A n c).ownBlock = some q) W0 W1 := (h2.alloc o).grown hg (fun k hk => by
    rcases h4 with h4 | ⟨g, h4, hge⟩
    · exact .inl (h4.symm.trans hk)
    · rw [h4] at hk; injection hk with hk; exact .inr (by omega))
  have hat2 : v1.ownBlock = (Value.slice A n c).ownBlock ∨ ∃ g, v1.ownBlock = some g ∧ W0.heap.size ≤ g := by
    rcases hat with h | ⟨h, _⟩
    · rw [h]; exact h4
    · exact .inr ⟨_, h, by simp; omega⟩
  refine ⟨hown, hft, ?_, hat2⟩
  rcases hat with hat | ⟨_, hn⟩
  · rcases h4 with h4 | ⟨g, h4, hge⟩
    · rcases Nat.eq_zero_or_pos n with h0 | h0
      · subst h0
        exact ⟨rfl, by omega, fun h => absurd h (by omega)⟩
      · obtain ⟨g, rfl⟩ := hA2 h0
        obtain ⟨g', c', hv, _⟩ := own_some hown (by omega)
        have : g' = g := by
          have h5 := hat.trans h4
          rw [hv] at h5
          simpa [Value.ownBlock] using h5
        subst this
        subst hv
        have hr := (own_rd hown).take_ n (by omega)
        rwa [List.take_replicate, show min n (n + (m + 1)) = n by omega] at hr
    · refine reads_keep h3 (fun ad e' hn0 => ?_)
      obtain ⟨g2, hg2⟩ := hA2 hn0
      rw [hg2] at e'
      injection e' with e'
      subst e'
      have hlt := hA g2 (by rw [hg2]; rfl)
      rw [hg.block g2 (by simp; omega) (fun e' => by rw [h4] at e'; injection e' with e'; omega), Below.heap_alloc _ _ _ (by omega)]
  · refine reads_keep h3 (fun ad e' hn0 => ?_)
    obtain ⟨g2, hg2⟩ := hA2 hn0
    rw [hg2] at e'
    injection e' with e'
    subst e'
    have hlt := hA g2 (by rw [hg2]; rfl)
    rw [hn.block g2 (by simp; omega) (by simp), Below.heap_alloc _ _ _ (by omega)]
/-- The lists while they grow. -/
def Grow (W : World) (base : Nat) (ps : List (Value × Value)) (ns : Nat → Nat) (F : Nat → Nat → Prop) (k : Nat) : Prop :=
  ∀ j p, ps[j]? = some p → (j < k → L3 W base (F j) p.1 p.2 (ns j) j) ∧ (k ≤ j → p.2 = .slice none 0 0 ∧ L2 W base (F j) p.1 (ns j) j)
theorem L3.foot {W W' : World} {base n i : Nat} {F G : Nat → Prop} {v long : Value} (h : L3 W base F v long n i) (hf : Foot G W W') (hne : ∀ k, F k → ¬ G k) (hlt : ∀ k, F k → k < W.heap.size) : L3 W' base F v long n i := by
  obtain ⟨h1, h2, A, c, rfl, h3, h4, h5⟩ := h
  refine ⟨own_foot h1 hf (fun k hk => hne k (h2 k hk)), h2, A, c, rfl, h3, reads_keep h4 (fun ad e hn => ?_), h5⟩
  obtain ⟨g, hg, hF⟩ := h5 hn
  rw [hg] at e
  injection e with e
  subst e
  exact hf.block g (hlt g hF) (hne g hF)
theorem L3.mono {W : World} {base n i : Nat} {F G : Nat → Prop} {v long : Value} (h : L3 W base F v long n i) (hm : ∀ k, F k → G k) : L3 W base G v long n i := by
  obtain ⟨h1, h2, A, c, rfl, h3, h4, h5⟩ := h
  exact ⟨h1, fun k hk => hm k (h2 k hk), A, c, rfl, h3, h4, fun hn => (h5 hn).imp fun g hg => ⟨hg.1, hm g hg.2⟩⟩
theorem Grow.foot {W W' : World} {base k : Nat} {ps : List (Value × Value)} {ns : Nat → Nat} {F : Nat → Nat → Prop} {G : Nat → Prop} (h : Grow W base ps ns F k) (hf : Foot G W W') (hne : ∀ j q, F j q → ¬ G q) (hlt : ∀ j q, F j q → q < W.heap.size) : Grow W' base ps ns F k :=
  fun j p hp => ⟨fun hj => ((h j p hp).1 hj).foot hf (hne j) (hlt j), fun hj => ⟨((h j p hp).2 hj).1, ((h j p hp).2 hj).2.foot hf (hne j)⟩⟩
/-- More is put behind one list more. -/
theorem Grow.next {W0 W2 : World} {base k : Nat} {ps : List (Value × Value)} {ns : Nat → Nat} {F : Nat → Nat → Prop} {G X : Nat → Prop} {v long : Value} (h : Grow W0 base ps ns F k) (hf : Foot G W0 W2) (hne : ∀ j q, j ≠ k → F j q → ¬ G q) (hlt : ∀ j q, F j q → q < W0.heap.size) (hk : k < ps.length)
    (h3 : L3 W2 base (fun q => F k q ∨ (k = k ∧ X q)) v long (ns k) k) : Grow W2 base (ps.set k (v, long)) ns (fun j q => F j q ∨ (j = k ∧ X q)) (k + 1) := by
  intro j p hp
  rcases Nat.lt_or_ge j k with hj | hj
  · rw [List.getElem?_set_ne (by omega)] at hp
    exact ⟨fun _ => (((h j p hp).1 hj).foot hf (fun q hq => hne j q (by omega) hq) (hlt j)).mono (fun q hq => .inl hq), fun h' => by omega⟩
  · rcases Nat.eq_or_lt_of_le hj with e | hj2
    · subst e
      rw [List.getElem?_set_self hk] at hp
      injection hp with hp
      subst hp
      exact ⟨fun _ => h3, fun h' => by omega⟩
    · rw [List.getElem?_set_ne (by omega)] at hp
      refine ⟨fun h' => by omega, fun _ => ⟨((h j p hp).2 hj).1, ?_⟩⟩
      have h4 := ((h j p hp).2 hj).2.foot hf (fun q hq => hne j q (by omega) hq)
      exact ⟨h4.1, fun q hq => .inl (h4.2 q hq)⟩
/-- The book when the long list is written down. -/
theorem Bk.long {W0 W : World} {base b k r cr : Nat} {ps : List (Value × Value)} {F : Nat → Nat → Prop} {X : Nat → Prop} {v lg long : Value} (h : Bk W0 base b (.slice (some ⟨r, 0, none⟩) ps.length cr) ps F) (hb : W.heap[b]? = W0.heap[b]?) (hr : W.heap[r]? = W0.heap[r]?) (hsz : W0.heap.size ≤ W.heap.size) (hp : ps[k]? = some (v, lg))
    (hX : ∀ q, X q → base ≤ q ∧ W0.heap.size ≤ q ∧ q < W.heap.size) :
    Bk (W.setCell ⟨r, k * 3 + 1, none⟩ long) base b (.slice (some ⟨r, 0, none⟩) ps.length cr) (ps.set k (v, long)) (fun j q => F j q ∨ (j = k ∧ X q)) := by
  have hbl : b < W0.heap.size := (Array.getElem?_eq_some_iff.1 h.hb).1
  have hrl : r < W0.heap.size := (own_lt' h.hr rfl).2
  have hbr : b ≠ r := fun e => h.rb (by rw [e]; rfl)
  have hown : W.ownsRow base 118 3 (.slice (some ⟨r, 0, none⟩) ps.length cr) ps.length (flat3 0 ps) := by
    refine ⟨h.hr.1, h.hr.2.elim .inl ?_⟩
    rintro ⟨g, cap, cur, h1, h2, h3, rest⟩
    have e : r = g := by
      have h1' := congrArg Value.ownBlock h1
      simpa [Value.ownBlock] using h1'
    subst e
    exact .inr ⟨r, cap, cur, h1, h2, hr.trans h3, rest⟩
  have hst := (hown.stored (k * 3 + 1) long).1
  rw [flat3_set ps 0 k (v, lg) long hp] at hst
  refine ⟨?_, by rw [List.length_set]; exact hst, h.rb, h.bb, ?_, ?_⟩
  · rw [List.length_set, Below.heap_setCell _ _ _ _ hbr, hb]; exact h.hb
  · intro i q hq
    have hs2 : (W.setCell ⟨r, k * 3 + 1, none⟩ long).heap.size = W.heap.size := by simp [World.setCell]
    rw [hs2]
    rcases hq with hq | ⟨_, hq⟩
    · have := h.fl i q hq
      exact ⟨this.1, by omega, this.2.2⟩
    · have := hX q hq
      refine ⟨this.1, this.2.2, by omega, fun e => ?_⟩
      have e' : r = q := by simpa [Value.ownBlock] using e
      omega
  · intro i j q hi hj
    rcases hi with hi | ⟨ei, hi⟩ <;> rcases hj with hj | ⟨ej, hj⟩
    · exact h.fd i j q hi hj
    · have := (h.fl i q hi).2.1; have := (hX q hj).2.1; omega
    · have := (h.fl j q hj).2.1; have := (hX q hi).2.1; omega
    · omega
end Go.Proofs.YtmoakgkoahjijaaGreatDoor
