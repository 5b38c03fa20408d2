/-
  What the walks of this seat share: a frame of the memory by a set of blocks; slices of whole numbers that are read or owned.
-/
import Derived.WalkKit
import Derived.ProofKit
import Derived.KernelRfl
import Derived.Deep.RegionHeld3
import Derived.Deep.AppendLies
import Derived.Deep.QuietTactic
import Derived.BigQuiet
import Derived.Maps.AppendAt
import Derived.Deep.OwnRows
import Derived.Deep.LoopGhost
import Derived.Outline
import Derived.Deep.RegionLaw
import Derived.Laws.EntriesVeiled
import Derived.Laws.ResultCell
import Derived.Laws.OwnMore
import Derived.Laws.Rows
import Derived.SizedLaws
import Derived.Deep.Slices
import Derived.OpenShut
import Derived.ChangeArms
import Derived.Test.YtmoakgkoahjijaaGreatDoorProg
import Derived.Below
import Derived.Deep.Draws
import Derived.OwnWalk
import Derived.Laws.BytesArg
import Derived.Laws.MakeOwn
import Derived.Tactics
import Derived.Lib.ConvBytes
import Derived.Laws.Slices
import Derived.RowKit3
import Derived.WideLaws
import Derived.Deep.DeepCutAuto
import Derived.Deep.CutBlock
import Derived.Lib.AppendStr
import Derived.ArgAppend
import Derived.Laws.IdiomCopy
import Derived.OrdersHeld
import Derived.Laws.BitsLemmas
import Derived.RowKit
import Derived.Test.YtmoakgkoahjijaaGreatDoorWWords
import Derived.Test.YtmoakgkoahjijaaGreatDoorWLast
import Derived.Test.YtmoakgkoahjijaaGreatDoorWTab
import Derived.Test.YtmoakgkoahjijaaGreatDoorWFour
import Derived.Test.YtmoakgkoahjijaaGreatDoorWQPut
import Derived.Test.YtmoakgkoahjijaaGreatDoorWApart
import Derived.Test.YtmoakgkoahjijaaGreatDoorWArr
import Derived.Test.YtmoakgkoahjijaaGreatDoorWZeros
import Derived.Test.YtmoakgkoahjijaaGreatDoorWFoot
import Derived.Test.YtmoakgkoahjijaaGreatDoorWKept
import Derived.Test.YtmoakgkoahjijaaGreatDoorWShare
import Derived.Test.YtmoakgkoahjijaaGreatDoorWN
import Derived.Test.YtmoakgkoahjijaaGreatDoorWFootNe
import Derived.Test.YtmoakgkoahjijaaGreatDoorWAt
import Derived.Test.YtmoakgkoahjijaaGreatDoorWEqStruct
import Derived.Test.YtmoakgkoahjijaaGreatDoorWRepsOne
import Derived.Test.YtmoakgkoahjijaaGreatDoorWInv
import Derived.Test.YtmoakgkoahjijaaGreatDoorWInvWords
import Derived.Test.YtmoakgkoahjijaaGreatDoorWGuard
import Derived.Test.YtmoakgkoahjijaaGreatDoorWNEv
import Derived.Test.YtmoakgkoahjijaaGreatDoorWMore
import Derived.RangeFuncNested
import Derived.RangeFuncBound
import Derived.RangeFuncCalls
import Derived.RangeFuncLeaves
import Derived.Shelf.Abstract
import Derived.Shelf.RegionOpen
import Derived.OwnWalkIn
import Derived.TacticsInMore
import Derived.LoopNIn
import Derived.LoopIn
set_option linter.unusedVariables false
set_option linter.unusedSimpArgs false
namespace Go.Proofs.YtmoakgkoahjijaaGreatDoor
open Go.RowKit

/-- Behind the call all blocks that were there and are none of F's are as they were. -/
structure Foot (F : Nat → Prop) (w w' : World) : Prop where
  os : w'.os = w.os
  tape : w'.tape = w.tape
  output : w'.output = w.output
  size : w.heap.size ≤ w'.heap.size
  block : ∀ k, k < w.heap.size → ¬ F k → w'.heap[k]? = w.heap[k]?

theorem Foot.refl (F : Nat → Prop) (w : World) : Foot F w w := ⟨rfl, rfl, rfl, Nat.le_refl _, fun _ _ _ => rfl⟩
theorem Foot.trans {F G : Nat → Prop} {a b c : World} (h : Foot F a b) (k : Foot G b c) (hG : ∀ i, G i → F i ∨ a.heap.size ≤ i) : Foot F a c :=
  ⟨k.os.trans h.os, k.tape.trans h.tape, k.output.trans h.output, Nat.le_trans h.size k.size, fun i hi hF => by
    rw [k.block i (Nat.lt_of_lt_of_le hi h.size) (fun g => (hG i g).elim hF (fun h' => absurd h' (Nat.not_le.2 hi)))]
    exact h.block i hi hF⟩
theorem Foot.drew {F : Nat → Prop} {a b : World} (h : Foot F a b) : Foot F a b.drew := ⟨h.os, h.tape, h.output, h.size, h.block⟩
theorem Foot.drewN {F : Nat → Prop} {a b : World} (h : Foot F a b) (n : Nat) : Foot F a (b.drewN n) := ⟨h.os, h.tape, h.output, h.size, h.block⟩
theorem Foot.alloc {F : Nat → Prop} {a b : World} (h : Foot F a b) (o : Obj) : Foot F a (b.alloc o) :=
  ⟨h.os, h.tape, h.output, Nat.le_trans h.size (by simp), fun i hi hF => by rw [Below.heap_alloc _ _ _ (Nat.lt_of_lt_of_le hi h.size)]; exact h.block i hi hF⟩
theorem Foot.setCell {F : Nat → Prop} {a b : World} (h : Foot F a b) {p : Addr} (hp : F p.block ∨ a.heap.size ≤ p.block) (u : Value) : Foot F a (b.setCell p u) :=
  ⟨h.os, h.tape, h.output, Nat.le_trans h.size (by simp [World.setCell]), fun i hi hF => by
    rw [Below.heap_setCell _ _ _ _ (by rintro rfl; rcases hp with hp | hp; exact hF hp; exact absurd hp (Nat.not_le.2 hi))]; exact h.block i hi hF⟩
theorem Foot.grown {F : Nat → Prop} {a b c : World} {row : Option Nat} (h : Foot F a b) (hg : b.grownBy c row) (hr : ∀ k, row = some k → F k ∨ a.heap.size ≤ k) : Foot F a c :=
  ⟨hg.os.trans h.os, hg.tape.trans h.tape, hg.output.trans h.output, Nat.le_trans h.size hg.size, fun i hi hF => by
    rw [hg.block i (Nat.lt_of_lt_of_le hi h.size) (fun e => (hr i e.symm).elim hF (fun h' => absurd h' (Nat.not_le.2 hi)))]; exact h.block i hi hF⟩
theorem Foot.mono {F G : Nat → Prop} {a b : World} (h : Foot F a b) (hG : ∀ i, i < a.heap.size → F i → G i) : Foot G a b :=
  ⟨h.os, h.tape, h.output, h.size, fun i hi hF => h.block i hi (fun f => hF (hG i hi f))⟩
theorem Foot.below {F : Nat → Prop} {a b : World} {B : Nat} (h : Foot F a b) (hF : ∀ i, F i → B ≤ i) (hB : B ≤ a.heap.size) : Below B a b :=
  ⟨h.os, h.tape, h.output, h.size, fun k hk => h.block k (by omega) (fun f => absurd (hF k f) (Nat.not_le.2 hk))⟩
theorem Foot.ofBelow {a b : World} (h : Below a.heap.size a b) (F : Nat → Prop) : Foot F a b := ⟨h.os, h.tape, h.output, h.size, fun k hk _ => h.block k hk⟩
theorem Foot.blk {F : Nat → Prop} {a b : World} (h : Foot F a b) {g : Nat} {o : Obj} (hb : a.heap[g]? = some o) (hF : ¬ F g) : b.heap[g]? = some o :=
  (h.block g (Array.getElem?_eq_some_iff.1 hb).1 hF).trans hb
theorem Foot.cell {F : Nat → Prop} {a b : World} (h : Foot F a b) {p : Addr} {v : Value} (hc : a.cell? p = some v) (hF : ¬ F p.block) : b.cell? p = some v :=
  (World.cell?_of_block (w := a) (h.block p.block (World.block_lt_of_cell? a p hc) hF)).trans hc
theorem Foot.own {F : Nat → Prop} {a b : World} (h : Foot F a b) {base : Nat} {e : TypeId} {size : Nat} {v : Value} {n : Nat} {xs : List Value} (ho : a.ownsRow base e size v n xs) (hF : ∀ k, v.ownBlock = some k → ¬ F k) : b.ownsRow base e size v n xs := by
  obtain ⟨h1, h2⟩ := ho
  refine ⟨h1, ?_⟩
  rcases h2 with h2 | ⟨g, cap, cur, hv, hg, hh, r⟩
  · exact .inl h2
  · exact .inr ⟨g, cap, cur, hv, hg, h.blk hh (hF g (by rw [hv]; rfl)), r⟩

/-- Whole numbers as values. -/
def nums (k : IntKind) (xs : List Int) : List Value := xs.map fun x => .int k x
theorem nums_length (k : IntKind) (xs : List Int) : (nums k xs).length = xs.length := by simp [nums]
theorem nums_append (k : IntKind) (xs ys : List Int) : nums k (xs ++ ys) = nums k xs ++ nums k ys := by simp [nums]
def rd (xs : List Int) (i : Int) : Int := xs.getD i.toNat 0

/-- A slice that is read: nil, empty and other slices alike. -/
def Reads (w : World) (k : IntKind) (A : Option Addr) (n : Nat) (xs : List Int) : Prop :=
  xs.length = n ∧ n ≤ 9223372036854775807 ∧ (0 < n → ∃ ad, A = some ad ∧ ∀ j, j < n → w.cell? (ad.add j) = some (.int k (xs.getD j 0)))
theorem Reads.at_ {w : World} {k : IntKind} {A : Option Addr} {n : Nat} {xs : List Int} (h : Reads w k A n xs) (i : Int) (h0 : 0 ≤ i) (h1 : i < n) : ∃ ad, A = some ad ∧ w.cell? (ad.add i.toNat) = some (.int k (rd xs i)) := by
  obtain ⟨ad, e, hc⟩ := h.2.2 (by omega)
  exact ⟨ad, e, hc _ (by omega)⟩
theorem add_block (a : Addr) (i : Nat) : (a.add i).block = a.block := by unfold Addr.add; split <;> rfl
theorem Reads.foot {w w1 : World} {k : IntKind} {A : Option Addr} {n : Nat} {xs : List Int} {F : Nat → Prop} (h : Reads w k A n xs) (hb : Foot F w w1) (hF : ∀ ad, A = some ad → 0 < n → ¬ F ad.block) : Reads w1 k A n xs :=
  ⟨h.1, h.2.1, fun hn => by
    obtain ⟨ad, e, hc⟩ := h.2.2 hn
    exact ⟨ad, e, fun j hj => hb.cell (hc j hj) (by rw [add_block]; exact hF ad e hn)⟩⟩
theorem Reads.below {w w1 : World} {k : IntKind} {A : Option Addr} {n : Nat} {xs : List Int} (h : Reads w k A n xs) (hb : Below w.heap.size w w1) : Reads w1 k A n xs :=
  h.foot (Foot.ofBelow hb (fun _ => False)) (fun _ _ _ => not_false)
/-- The place of a slice that is not empty, written out. -/
theorem Reads.plain {w : World} {k : IntKind} {A : Option Addr} {n : Nat} {xs : List Int} (h : Reads w k A n xs) (hn : 0 < n) : ∃ b off, A = some ⟨b, off, none⟩ ∧ b < w.heap.size ∧ ∀ j, j < n → w.cell? ⟨b, off + j, none⟩ = some (.int k (xs.getD j 0)) := by
  obtain ⟨ad, e, hc⟩ := h.2.2 hn
  obtain ⟨b, off, spot⟩ := ad
  have h0 := hc 0 hn
  have hs : spot = none := by simpa [Addr.add] using World.cell?_spot h0
  subst hs
  refine ⟨b, off, e, ?_, fun j hj => ?_⟩
  · have := World.block_lt_of_cell? w _ h0
    rwa [add_block] at this
  · have := hc j hj
    rwa [Addr.add_lit] at this
theorem Reads.nil (w : World) (k : IntKind) : Reads w k none 0 [] := ⟨rfl, by omega, fun h => by omega⟩
theorem Reads.take_ {w : World} {k : IntKind} {A : Option Addr} {n : Nat} {xs : List Int} (h : Reads w k A n xs) (i : Nat) (hi : i ≤ n) : Reads w k A i (xs.take i) := by
  obtain ⟨h1, h2, h3⟩ := h
  refine ⟨by simp; omega, by omega, fun hn => ?_⟩
  obtain ⟨ad, e, hc⟩ := h3 (by omega)
  refine ⟨ad, e, fun j hj => ?_⟩
  rw [hc j (by omega)]
  simp [List.getElem?_take, hj]
theorem Reads.block_lt {w : World} {k : IntKind} {A : Option Addr} {n : Nat} {xs : List Int} (h : Reads w k A n xs) : ∀ ad, A = some ad → 0 < n → ad.block < w.heap.size := by
  intro ad e hn
  obtain ⟨ad', e', hc⟩ := h.2.2 hn
  obtain rfl : ad = ad' := by rw [e] at e'; injection e'
  have := World.block_lt_of_cell? w _ (hc 0 hn)
  rwa [add_block] at this
theorem add_plain (g j : Nat) : (⟨g, 0, none⟩ : Addr).add j = ⟨g, j, none⟩ := by unfold Addr.add; split <;> simp_all
theorem own_reads {w : World} {base n : Nat} {e : TypeId} {k : IntKind} {v : Value} {xs : List Int} (h : w.ownsRow base e 1 v n (nums k xs)) : ∃ A c, v = .slice A n c ∧ n ≤ c ∧ Reads w k A n xs := by
  have hl : xs.length = n := by have := h.1; simpa [nums] using this
  rcases h.2 with ⟨rfl, rfl⟩ | ⟨g, cap, cur, rfl, hb, hh, hnc, hcm, hcs, ht⟩
  · exact ⟨none, 0, rfl, Nat.le_refl _, hl, by omega, fun h => by omega⟩
  · refine ⟨some ⟨g, 0, none⟩, cap, rfl, hnc, hl, by unfold maxLen at hcm; omega, fun hn => ⟨_, rfl, fun j hj => ?_⟩⟩
    have hc := h.cells (g := g) rfl j (.int k (xs.getD j 0)) (by simp [nums, List.getElem?_eq_getElem (show j < xs.length by omega), List.getD_eq_getElem?_getD])
    exact hc

theorem cellOf {w : World} {g : Nat} {cs : Array Value} {t : TypeId} (h : w.heap[g]? = some (.cells cs t (0, 0))) (i : Nat) : w.cell? ⟨g, i, none⟩ = cs[i]? := by simp [World.cell?, h]
theorem frozenOf {w : World} {g : Nat} {cs : Array Value} {t : TypeId} (h : w.heap[g]? = some (.cells cs t (0, 0))) (i : Nat) : w.frozen? ⟨g, i, none⟩ = false := by simp [World.frozen?, h]
/-- A block of cells, one of them being written. -/
theorem setCell_heap {w : World} {g : Nat} {cs : Array Value} {t : TypeId} {fr : Nat × Nat} (h : w.heap[g]? = some (.cells cs t fr)) (j : Nat) (v : Value) : (w.setCell ⟨g, j, none⟩ v).heap[g]? = some (.cells (cs.setIfInBounds j v) t fr) := by
  simp [World.setCell, Array.getElem?_modify, h]
theorem set3 {w : World} {g : Nat} {a b c : Value} {t : TypeId} {fr : Nat × Nat} (h : w.heap[g]? = some (.cells #[a, b, c] t fr)) (x y z : Value) : (((w.setCell ⟨g, 0, none⟩ x).setCell ⟨g, 1, none⟩ y).setCell ⟨g, 2, none⟩ z).heap[g]? = some (.cells #[x, y, z] t fr) := by
  rw [setCell_heap (setCell_heap (setCell_heap h 0 x) 1 y) 2 z]
  rfl
/-- A struct and an Errno as results. -/
theorem results_row_tmp {P : Program} {fn : Func} {p u : Tmp} {ty : TypeId} (h : fn.results = #[.cell p ty, .tmp u]) (tmps : Array Value) (w : World) (g : Nat) (t : TypeId) (cs : Array Value) (fr : Nat × Nat) (d : TypeDesc)
    (hp : tmps.getD p undef = .pointer (some ⟨g, 0, none⟩)) (hg : w.heap[g]? = some (.cells cs t fr))
    (hu : P.underlying ty = some d) (hd : (match d with | .struct _ | .array _ _ => true | _ => false) = true) (hi : (P.info? ty).map (·.size) = some cs.size) :
    (results fn tmps).run P w = .ok (.tuple #[.agg cs, tmps.getD u undef]) w := by
  rw [results_cell_tmp h, hp]
  simp [asAddr, run_loadVar_row w g t ty cs fr d hg hu hd hi, Result.andThen]
theorem own_form {w : World} {base n : Nat} {e : TypeId} {size : Nat} {v : Value} {xs : List Value} (h : w.ownsRow base e size v n xs) : ∃ A L c, v = .slice A L c ∧ Aside (L = n) := by
  rcases h.2 with ⟨rfl, rfl⟩ | ⟨g, cap, cur, rfl, _⟩
  · exact ⟨_, _, _, rfl, rfl⟩
  · exact ⟨_, _, _, rfl, rfl⟩
/-- append(v, ys...): v a row of the call's own, ys any slice that is read. -/
theorem run_append_row {P : Program} {W : World} (base : Nat) (t ty e : TypeId) (k : IntKind) (bytes : Nat)
    (ht : P.underlying t = some (.slice e)) (hinfo : (P.info? e).map (fun i => (i.zero, i.size, i.bytes)) = some (some (.int k 0), 1, bytes)) (hb0 : 0 < bytes)
    (v : Value) (xs ys : List Int) (A : Option Addr) (m c : Nat)
    (HO : W.ownsRow base e 1 v xs.length (nums k xs)) (HR : Reads W k A m ys) (hbase : base ≤ W.heap.size) (hl : (xs.length + m) * bytes ≤ 140737488355328) :
    ∃ v1 w1, (Builtin.append_ #[t, t] ty #[v, .slice A m c]).run P W = .ok v1 w1 ∧ w1.ownsRow base e 1 v1 (xs ++ ys).length (nums k (xs ++ ys)) ∧ W.grownBy w1 v.ownBlock ∧ (v1.ownBlock = v.ownBlock ∨ v1.ownBlock = some W.heap.size) := by
  obtain ⟨i0, hi, hzz⟩ := Option.map_eq_some_iff.1 hinfo
  simp only [Prod.mk.injEq] at hzz
  obtain ⟨hz0, hz1, hz2⟩ := hzz
  have hm : ys.length = m := HR.1
  have hlen : xs.length + m ≤ 140737488355328 := Nat.le_trans (Nat.le_mul_of_pos_right _ hb0) hl
  rcases A with _ | ad
  · have h0 : m = 0 := by
      rcases Nat.eq_zero_or_pos m with h0 | h0
      · exact h0
      · obtain ⟨ad, h, _⟩ := HR.2.2 h0
        cases h
    subst h0
    obtain rfl : ys = [] := List.eq_nil_of_length_eq_zero hm
    refine ⟨v, W, ?_, by simpa using HO, World.grownBy.refl W _, .inl rfl⟩
    rcases HO.2 with ⟨rfl, hn⟩ | ⟨g, cap, cur, rfl, _, _, hnc, _⟩
    · simp [Builtin.append_, run_underlying ht, sizeOf, typeInfo, hi, Builtin.lenOf, Builtin.firstCells]
    · simp [Builtin.append_, run_underlying ht, sizeOf, typeInfo, hi, Builtin.lenOf, Builtin.firstCells, hnc, storeCells]
  · have hcells : ∀ j u, (nums k ys)[j]? = some u → W.cell? (ad.add j) = some u := by
      intro j u hu
      have hj : j < ys.length := by
        rcases Nat.lt_or_ge j ys.length with h | h
        · exact h
        · simp [nums, List.getElem?_eq_none h] at hu
      obtain ⟨ad', h', hc⟩ := HR.2.2 (by omega)
      injection h' with h'
      subst h'
      have := hc j (by omega)
      simp [nums, List.getElem?_eq_getElem hj] at hu
      subst hu
      rw [this]
      simp [List.getD_eq_getElem?_getD, List.getElem?_eq_getElem hj]
    obtain ⟨v1, w1, hr, h2, h3, _, h5⟩ := run_append_own_at (P := P) W base t ty e i0 (.int k 0) 1 bytes ht hi hz0 hz1 hz2 rfl (by omega) v xs.length (nums k xs) HO ad m c (nums k ys) (by simp [nums, hm]) hcells
      (by intro u hu; simp only [nums, List.mem_map] at hu; obtain ⟨q, _, rfl⟩ := hu; rfl) (by simp only [maxLen]; omega) hl hbase
    exact ⟨v1, w1, hr, by simpa [nums, hm] using h2, h3, h5⟩
theorem wp_append_row {P : Program} {o : Oper} {a : Act} {K : Act → World → Prop} {Q : Exit → Act → World → Prop} {W : World} (base : Nat) (s x : Operand) (t e : TypeId) (k : IntKind) (bytes : Nat)
    (ho : o.op = .call { callee := .builtin .append, args := #[s, x], argTypes := #[t, t] })
    (ht : P.underlying t = some (.slice e)) (hinfo : (P.info? e).map (fun i => (i.zero, i.size, i.bytes)) = some (some (.int k 0), 1, bytes)) (hb0 : 0 < bytes)
    (v : Value) (xs ys : List Int) (A : Option Addr) (m c : Nat) (hs : a.eval s = v) (hx : a.eval x = .slice A m c)
    (HO : W.ownsRow base e 1 v xs.length (nums k xs)) (HR : Reads W k A m ys) (hbase : base ≤ W.heap.size) (hl : (xs.length + m) * bytes ≤ 140737488355328)
    (h : ∀ v1 w1, w1.ownsRow base e 1 v1 (xs ++ ys).length (nums k (xs ++ ys)) → W.grownBy w1 v.ownBlock → (v1.ownBlock = v.ownBlock ∨ v1.ownBlock = some W.heap.size) → K (a.put o.dst v1) w1) :
    o.wp P a W K Q := by
  obtain ⟨v1, w1, hr, hown, hg, hat⟩ := run_append_row (P := P) (W := W) base t o.type e k bytes ht hinfo hb0 v xs ys A m c HO HR hbase hl
  unfold Oper.wp execOp
  simp only [ho, resolve, invoke, builtin, Sem.run_bind, Sem.run_pure, Result.andThen_ok, List.map_toArray, List.map_cons, List.map_nil, hs, hx, hr]
  exact h v1 w1 hown hg hat
/-- The law at a plain region's list. -/
theorem append_row {P : Program} {ops : Array Oper} {rest : List Oper} {o : Oper} {a : Act} {Q : Exit → Act → World → Prop} {W : World} (base : Nat) (hgd : o.guard = none) (s x : Operand) (t e : TypeId) (k : IntKind) (bytes : Nat)
    (ho : o.op = .call { callee := .builtin .append, args := #[s, x], argTypes := #[t, t] })
    (ht : P.underlying t = some (.slice e)) (hinfo : (P.info? e).map (fun i => (i.zero, i.size, i.bytes)) = some (some (.int k 0), 1, bytes)) (hb0 : 0 < bytes)
    (v : Value) (xs ys : List Int) (A : Option Addr) (m c : Nat) (hs : a.eval s = v) (hx : a.eval x = .slice A m c)
    (HO : W.ownsRow base e 1 v xs.length (nums k xs)) (HR : Reads W k A m ys) (hbase : base ≤ W.heap.size) (hl : (xs.length + m) * bytes ≤ 140737488355328)
    (h : ∀ v1 w1, w1.ownsRow base e 1 v1 (xs ++ ys).length (nums k (xs ++ ys)) → W.grownBy w1 v.ownBlock → (v1.ownBlock = v.ownBlock ∨ v1.ownBlock = some W.heap.size) → wpList P ops Q rest (a.put o.dst v1) w1) :
    wpList P ops Q (o :: rest) a W := by
  refine wpList_plain hgd fun K hK => ?_
  exact wp_append_row base s x t e k bytes ho ht hinfo hb0 v xs ys A m c hs hx HO HR hbase hl fun v1 w1 h1 h2 h3 => hK _ _ (h v1 w1 h1 h2 h3)
/-- The law at a step of a region that draws its order. -/
theorem step_append_row {P : Program} {ops : Array Oper} {o : Oper} {a : Act} {K : Act → World → Prop} {Q : Exit → Act → World → Prop} {E : Prop} {W : World} (base : Nat) (hgd : o.guard = none) (s x : Operand) (t e : TypeId) (k : IntKind) (bytes : Nat)
    (ho : o.op = .call { callee := .builtin .append, args := #[s, x], argTypes := #[t, t] })
    (ht : P.underlying t = some (.slice e)) (hinfo : (P.info? e).map (fun i => (i.zero, i.size, i.bytes)) = some (some (.int k 0), 1, bytes)) (hb0 : 0 < bytes)
    (v : Value) (xs ys : List Int) (A : Option Addr) (m c : Nat) (hs : a.eval s = v) (hx : a.eval x = .slice A m c)
    (HO : W.ownsRow base e 1 v xs.length (nums k xs)) (HR : Reads W k A m ys) (hbase : base ≤ W.heap.size) (hl : (xs.length + m) * bytes ≤ 140737488355328)
    (h : ∀ v1 w1, w1.ownsRow base e 1 v1 (xs ++ ys).length (nums k (xs ++ ys)) → W.grownBy w1 v.ownBlock → (v1.ownBlock = v.ownBlock ∨ v1.ownBlock = some W.heap.size) → K (a.put o.dst v1) w1) :
    if Region.wanted o (yielded ops a.tmps) = true then Oper.wp P o a W K Q else E := by
  have hw : Region.wanted o (yielded ops a.tmps) = true := by simp [Region.wanted, hgd]
  rw [if_pos hw]
  exact wp_append_row base s x t e k bytes ho ht hinfo hb0 v xs ys A m c hs hx HO HR hbase hl h
/-- What an append to a row of the call's own leaves below. -/
theorem own_grown {w w' : World} {base n : Nat} {e : TypeId} {size : Nat} {v : Value} {xs : List Value} (ho : w.ownsRow base e size v n xs) (hg : w.grownBy w' v.ownBlock) (hb : base ≤ w.heap.size) : Below base w w' :=
  Below.grown (Below.refl _ _) hg hb (by
    intro q hq
    rcases ho.2 with ⟨h1, _⟩ | ⟨g, cap, cur, h1, h2, _⟩
    · rw [h1] at hq; cases hq
    · rw [h1] at hq; injection hq with hq; subst hq; exact h2)
/-- A row of the call's own that is not empty. -/
theorem own_some {w : World} {base n : Nat} {e : TypeId} {size : Nat} {v : Value} {xs : List Value} (h : w.ownsRow base e size v n xs) (hn : 0 < n) : ∃ g c, v = .slice (some ⟨g, 0, none⟩) n c ∧ base ≤ g ∧ g < w.heap.size ∧ n ≤ c ∧ c ≤ 9223372036854775807 := by
  rcases h.2 with ⟨_, h0⟩ | ⟨g, cap, _, hv, hg, hb, hc, hm, _⟩
  · omega
  · exact ⟨g, cap, hv, hg, (Array.getElem?_eq_some_iff.1 hb).1, hc, by simpa [maxLen] using hm⟩
theorem own_at {w : World} {base n g c : Nat} {e : TypeId} {k : IntKind} {xs : List Int} (h : w.ownsRow base e 1 (.slice (some ⟨g, 0, none⟩) n c) n (nums k xs)) (j : Nat) (hj : j < n) : w.cell? ⟨g, j, none⟩ = some (.int k (xs.getD j 0)) := by
  have hl : xs.length = n := by have := h.1; simpa [nums] using this
  rw [h.cellAt j (by omega)]
  simp [nums, List.getD_eq_getElem?_getD, List.getElem?_eq_getElem (show j < xs.length by omega)]
theorem own_put {w : World} {base n g c : Nat} {e : TypeId} {k : IntKind} {xs : List Int} (h : w.ownsRow base e 1 (.slice (some ⟨g, 0, none⟩) n c) n (nums k xs)) (j : Nat) (x : Int) : (w.setCell ⟨g, j, none⟩ (.int k x)).ownsRow base e 1 (.slice (some ⟨g, 0, none⟩) n c) n (nums k (xs.set j x)) := by
  have := (h.stored j (.int k x)).1
  rwa [nums, List.map_set]
theorem own_rd {w : World} {base n g c : Nat} {e : TypeId} {k : IntKind} {xs : List Int} (h : w.ownsRow base e 1 (.slice (some ⟨g, 0, none⟩) n c) n (nums k xs)) : Reads w k (some ⟨g, 0, none⟩) n xs := by
  obtain ⟨A, c', hv, _, hr⟩ := own_reads h
  injection hv with h1 _ _
  rw [h1]; exact hr
/-- A row of the call's own, cut. -/
theorem own_cut {w : World} {base n m c : Nat} {e : TypeId} {k : IntKind} {A : Option Addr} {xs : List Int} (h : w.ownsRow base e 1 (.slice A n c) n (nums k xs)) (hm : m ≤ n) : w.ownsRow base e 1 (.slice A m c) m (nums k (xs.take m)) := by
  have hl : xs.length = n := by have := h.1; simpa [nums] using this
  refine ⟨by simp [nums]; omega, ?_⟩
  rcases h.2 with ⟨h1, rfl⟩ | ⟨g, cap, cur, h1, hb, hh, hnc, hcm, hcs, ht⟩
  · injection h1 with h1 h2 h3
    subst h1; subst h3
    obtain rfl : m = 0 := by omega
    exact .inl ⟨rfl, rfl⟩
  · injection h1 with h1 h2 h3
    subst h1; subst h3
    refine .inr ⟨g, c, cur, rfl, hb, hh, by omega, hcm, hcs, ?_⟩
    simp only [Nat.mul_one] at ht ⊢
    simp only [nums, List.map_take]
    rw [nums] at ht
    rw [← ht, List.take_take, Nat.min_eq_left hm]
theorem own_keep {w w' : World} {base n : Nat} {e : TypeId} {size : Nat} {v : Value} {xs : List Value} (h : w.ownsRow base e size v n xs) (hb : Below w.heap.size w w') : w'.ownsRow base e size v n xs := by
  refine ⟨h.1, h.2.elim .inl ?_⟩
  rintro ⟨g, cap, cur, h1, h2, h3, r⟩
  exact .inr ⟨g, cap, cur, h1, h2, (hb.block g (Array.getElem?_eq_some_iff.1 h3).1).trans h3, r⟩
theorem own_rd' {w : World} {base n c : Nat} {e : TypeId} {k : IntKind} {A : Option Addr} {xs : List Int} (h : w.ownsRow base e 1 (.slice A n c) n (nums k xs)) : Reads w k A n xs := by
  obtain ⟨A', c', hv, _, hr⟩ := own_reads h
  injection hv with h1 _ _
  rw [h1]; exact hr
theorem below_drewN {B : Nat} {a w : World} (h : Below B a w) (q : Nat) : Below B a (w.drewN q) := ⟨h.os, h.tape, h.output, h.size, h.block⟩
end Go.Proofs.YtmoakgkoahjijaaGreatDoor

/- What came in as an argument, opened: a value that can be read as data and lies within the form's reach. -/
set_option linter.unusedVariables false
set_option linter.unusedSimpArgs false
namespace Go.Proofs.YtmoakgkoahjijaaGreatDoor
open Go.RowKit Go.Deep Go.ChangeShapes Go.WideShapes

/-- The cells cs read as data of type t, and no list or text in it is beyond the reach. -/
def Came {H : Type} (enc : TypeId × Value → H) (P : Program) (w : World) (t : TypeId) (cs : List Value) : Prop :=
  ∃ (fuel : Nat) (d : DataW H) (pl : List MemPlace), DataW.trod enc P w 0 (fun _ => true) true fuel t cs = some (d, pl) ∧ ∀ n ∈ d.weights P t, n ≤ reachBytes

section
variable {H : Type} {enc : TypeId × Value → H} {P : Program} {w : World} {t e : TypeId} {cs : List Value}

theorem Came.int {k : IntKind} (ht : P.underlying t = some (.int k)) (h : Came enc P w t cs) : ∃ n, cs = [.int k n] ∧ (Lit.int k n).wf = true := by
  obtain ⟨fuel, d, pl, h, _⟩ := h
  obtain ⟨n, h1, _, h3⟩ := DataW.trod_int ht h
  exact ⟨n, h1, h3⟩
theorem Came.bool (ht : P.underlying t = some .bool) (h : Came enc P w t cs) : ∃ b, cs = [.bool b] := by
  obtain ⟨fuel, d, pl, h, _⟩ := h
  obtain ⟨b, h1, _⟩ := DataW.trod_bool ht h
  exact ⟨b, h1⟩
theorem Came.string (ht : P.underlying t = some .string) (h : Came enc P w t cs) : ∃ s : ByteArray, cs = [.string s] ∧ s.size ≤ 140737488351232 := by
  obtain ⟨fuel, d, pl, h, hw⟩ := h
  obtain ⟨s, h1, h2, _⟩ := DataW.trod_string ht h
  refine ⟨s, h1, ?_⟩
  injection h2 with h2 _
  subst h2
  have := hw s.data.toList.length (by simp [DataW.weights])
  rw [Array.length_toList] at this
  exact this
theorem Came.slice (ht : P.underlying t = some (.slice e)) (h : Came enc P w t cs) :
    ∃ A n c, cs = [.slice A n c] ∧ n ≤ c ∧ c ≤ maxLen ∧ n * P.bytesOf e ≤ 140737488351232 ∧ c * P.bytesOf e ≤ 140737488351232 ∧ (A = none → n = 0 ∧ c = 0) ∧
      (∀ ad, A = some ad → ∀ i, i < n → ∃ cs', w.cells? 0 (ad.add (i * P.cellsOf e)) (P.cellsOf e) = some cs' ∧ Came enc P w e cs') := by
  obtain ⟨fuel, d, pl, h, hw⟩ := h
  rcases open_slice ht h with ⟨rfl, hx⟩ | ⟨a, len, cap, m, n, D, Pl, rfl, _, hl, hm, hmm, hx, hel⟩
  · exact ⟨none, 0, 0, rfl, Nat.le_refl _, Nat.zero_le _, by simp, by simp, fun _ => ⟨rfl, rfl⟩, fun ad h => by cases h⟩
  · simp only [if_true] at hmm
    subst hmm
    injection hx with hx _
    subst hx
    have hall : ∀ (l : List (DataW H)) (x : DataW H), x ∈ l → ∀ n ∈ x.weights P e, n ∈ DataW.weightsAll P e l := by
      intro l
      induction l with
      | nil => intro x hx; cases hx
      | cons y l ih =>
        intro x hx n hn
        simp only [DataW.weightsAll, List.mem_append]
        cases hx with
        | head => exact .inl hn
        | tail _ hx => exact .inr (ih x hx n hn)
    have hcap : m * P.bytesOf e ≤ 140737488351232 := by
      have := hw (m * P.bytesOf e) (by simp only [DataW.weights, ht, List.length_map, List.length_range]; rw [show len + (m - len) = m by omega]; exact List.mem_cons_self)
      exact this
    refine ⟨some a, len, m, rfl, hl, hm, Nat.le_trans (Nat.mul_le_mul_right _ hl) hcap, hcap, (fun h => by cases h), ?_⟩
    rintro ad h i hi
    injection h with h
    subst h
    obtain ⟨cs', h1, h2⟩ := hel i (by omega)
    refine ⟨cs', h1, n, D i, Pl i, h2, fun q hq => ?_⟩
    refine hw q ?_
    simp only [DataW.weights, ht, List.mem_cons, List.mem_append]
    exact .inr (.inl (hall _ (D i) (List.mem_map.2 ⟨i, List.mem_range.2 hi, rfl⟩) q hq))
theorem Came.slice1 (ht : P.underlying t = some (.slice e)) (hc : P.cellsOf e = 1) (h : Came enc P w t cs) :
    ∃ A n c, cs = [.slice A n c] ∧ n ≤ c ∧ c ≤ maxLen ∧ n * P.bytesOf e ≤ 140737488351232 ∧ c * P.bytesOf e ≤ 140737488351232 ∧ (A = none → n = 0 ∧ c = 0) ∧
      (∀ ad, A = some ad → ∀ i, i < n → ∃ v, w.cell? (ad.add i) = some v ∧ Came enc P w e [v]) := by
  obtain ⟨A, n, c, h1, h2, h3, h4, h5, h6, h7⟩ := h.slice ht
  refine ⟨A, n, c, h1, h2, h3, h4, h5, h6, fun ad ha i hi => ?_⟩
  obtain ⟨cs', h8, h9⟩ := h7 ad ha i hi
  rw [hc, Nat.mul_one] at h8
  obtain ⟨_, hlen, _⟩ := World.cells?_some h8
  match cs', hlen with
  | [v], _ => exact ⟨v, cell_of_cells?_one h8, h9⟩
theorem Came.struct {fs : Array Field} (ht : P.underlying t = some (.struct fs)) (h : Came enc P w t cs) : cs.length = P.cellsOf t ∧ ∀ (i : Nat) (f : Field), fs[i]? = some f → Came enc P w f.type ((cs.drop f.offset).take (P.cellsOf f.type)) := by
  obtain ⟨fuel, d, pl, h, hw⟩ := h
  obtain ⟨xs, n, _, hx, hl, hlen, hf⟩ := DataW.trod_struct ht h
  injection hx with hx _
  subst hx
  refine ⟨hl, fun i f hi => ?_⟩
  have hlt : i < fs.size := (Array.getElem?_eq_some_iff.1 hi).1
  have hix : i < xs.length := by omega
  have h1 := hf i f hi
  rw [List.getElem?_eq_getElem hix] at h1
  refine ⟨n, xs[i].1, xs[i].2, h1, fun q hq => hw q ?_⟩
  simp only [DataW.weights, ht]
  have hty : (fs.toList.map (·.type))[i]? = some f.type := by simp [hi]
  exact DataW.weights_mem_each hty (by simp [List.getElem?_eq_getElem hix]) q hq
theorem Came.array {n : Nat} (ht : P.underlying t = some (.array n e)) (h : Came enc P w t cs) : cs.length = P.cellsOf t ∧ ∀ i, i < n → Came enc P w e ((cs.drop (i * P.cellsOf e)).take (P.cellsOf e)) := by
  obtain ⟨fuel, d, pl, h, hw⟩ := h
  obtain ⟨xs, m, _, hx, hl, hlen, hf⟩ := DataW.trod_array ht h
  injection hx with hx _
  subst hx
  refine ⟨hl, fun i hi => ?_⟩
  have hix : i < xs.length := by omega
  have h1 := hf i hi
  rw [List.getElem?_eq_getElem hix] at h1
  refine ⟨m, xs[i].1, xs[i].2, h1, fun q hq => hw q ?_⟩
  have hall : ∀ (l : List (DataW H)) (x : DataW H), x ∈ l → ∀ n ∈ x.weights P e, n ∈ DataW.weightsAll P e l := by
    intro l
    induction l with
    | nil => intro x hx; cases hx
    | cons y l ih =>
      intro x hx n hn
      simp only [DataW.weightsAll, List.mem_append]
      cases hx with
      | head => exact .inl hn
      | tail _ hx => exact .inr (ih x hx n hn)
  simp only [DataW.weights, ht]
  exact hall _ _ (List.mem_map.2 ⟨xs[i], List.getElem_mem hix, rfl⟩) q hq

theorem bd_u8 {n : Int} (h : (Lit.int .u8 n).wf = true) : 0 ≤ n ∧ n ≤ 255 := by simp only [Lit.wf, Bool.and_eq_true, decide_eq_true_eq] at h; exact h
theorem bd_u16 {n : Int} (h : (Lit.int .u16 n).wf = true) : 0 ≤ n ∧ n ≤ 65535 := by simp only [Lit.wf, Bool.and_eq_true, decide_eq_true_eq] at h; exact h
theorem bd_u32 {n : Int} (h : (Lit.int .u32 n).wf = true) : 0 ≤ n ∧ n ≤ 4294967295 := by simp only [Lit.wf, Bool.and_eq_true, decide_eq_true_eq] at h; exact h
theorem bd_u64 {n : Int} (h : (Lit.int .u64 n).wf = true) : 0 ≤ n ∧ n ≤ 18446744073709551615 := by simp only [Lit.wf, Bool.and_eq_true, decide_eq_true_eq] at h; exact h
theorem bd_i64 {n : Int} (h : (Lit.int .i64 n).wf = true) : -9223372036854775808 ≤ n ∧ n ≤ 9223372036854775807 := by simp only [Lit.wf, Bool.and_eq_true, decide_eq_true_eq] at h; exact h

/-- From 'for every i < n there is an x' to a list. -/
theorem list_of {α : Type} [Inhabited α] (z : α) (n : Nat) {p : Nat → α → Prop} (h : ∀ i, i < n → ∃ x, p i x) : ∃ xs : List α, xs.length = n ∧ ∀ i, i < n → p i (xs.getD i z) := by
  obtain ⟨f, hf⟩ := choose_lt h
  refine ⟨(List.range n).map f, by simp, fun i hi => ?_⟩
  simpa [List.getD_eq_getElem?_getD, hi] using hf i hi

/-- A slice of whole numbers. -/
theorem Came.ints {k : IntKind} (ht : P.underlying t = some (.slice e)) (he : P.underlying e = some (.int k)) (hc : P.cellsOf e = 1) (h : Came enc P w t cs) :
    ∃ A n c xs, cs = [.slice A n c] ∧ n ≤ c ∧ n * P.bytesOf e ≤ 140737488351232 ∧ c * P.bytesOf e ≤ 140737488351232 ∧ Reads w k A n xs ∧ ∀ j, j < n → (Lit.int k (xs.getD j 0)).wf = true := by
  obtain ⟨A, n, c, h1, h2, h3, h4, h5, h6, h7⟩ := h.slice1 ht hc
  cases A with
  | none =>
    obtain ⟨rfl, rfl⟩ := h6 rfl
    exact ⟨none, 0, 0, [], h1, h2, h4, h5, Reads.nil _ _, fun j hj => by omega⟩
  | some ad =>
    obtain ⟨xs, hl, hx⟩ := list_of (0 : Int) n (p := fun i x => w.cell? (ad.add i) = some (.int k x) ∧ (Lit.int k x).wf = true) (fun i hi => by
      obtain ⟨v, h8, h9⟩ := h7 ad rfl i hi
      obtain ⟨x, h10, h11⟩ := h9.int he
      injection h10 with h10 _
      exact ⟨x, by rw [h8, h10], h11⟩)
    unfold maxLen at h3
    exact ⟨some ad, n, c, xs, h1, h2, h4, h5, ⟨hl, by omega, fun _ => ⟨ad, rfl, fun j hj => (hx j hj).1⟩⟩, fun j hj => (hx j hj).2⟩

theorem Came.of_args {ts : List TypeId} {ds : List (DataW H)} {j : Nat} {d : DataW H} {v : Value} {pl : List MemPlace} (hsz : (DataW.weightsEach P ts ds).all (· ≤ reachBytes) = true) (ht : ts[j]? = some t) (hd : ds[j]? = some d)
    (h : DataW.Trod enc P w 0 (fun _ => true) true t v d pl) : Came enc P w t v.cells.toList := by
  obtain ⟨fuel, hf⟩ := h
  refine ⟨fuel, d, pl, hf, fun n hn => ?_⟩
  have := List.all_eq_true.1 hsz n (DataW.weights_mem_each ht hd n hn)
  simpa using this
end
end Go.Proofs.YtmoakgkoahjijaaGreatDoor

-- PRINTED BY print.sh 35421559b90ae4d0a3588c463048766b98c2df88dd9212a6774a882060cdf62d: not written by this session
namespace Go.Proofs.YtmoakgkoahjijaaGreatDoor.PPut
open Go.RowKit Go.Proofs.YtmoakgkoahjijaaGreatDoorW.PrintWords Go.Proofs.YtmoakgkoahjijaaGreatDoorW.PrintLast Go.Proofs.YtmoakgkoahjijaaGreatDoorW.PrintMore
attribute [local go_sem] max2_int min2_int max_two min_two max_three min_three max_four min_four   -- for this text's walks alone
set_option linter.unusedVariables false
set_option linter.unusedSimpArgs false



def errW : Option Int → Value
  | none => .nilIface
  | some c => .iface 0 (.int .i64 c)
theorem errW_none : errW none = .nilIface := rfl
theorem errW_some (c : Int) : errW (some c) = .iface 0 (.int .i64 c) := rfl

theorem info4 : (Tryz.prog.info? 4).map (fun i => (i.zero, i.size, i.bytes)) = some (some (.bool false), 1, 1) := by kernel_rfl
theorem info5 : (Tryz.prog.info? 5).map (fun i => (i.zero, i.size, i.bytes)) = some (some (.int .u8 0), 1, 1) := by kernel_rfl
-- the values' own types
/-! #### struct type 79 -/
structure S79 where
  f0 : Int
  f1 : Int
  f2 : Int
def z79 : S79 := ⟨(0 : Int), (0 : Int), (0 : Int)⟩
def k79 : Kd S79 := Kd.iso (Kd.pair (Kd.int .i64) (Kd.pair (Kd.int .u64) (Kd.int .u64))) (fun x : S79 => (x.f0, x.f1, x.f2))
theorem k79_open {w : World} {x : S79} {cs : List Value} (h : k79.K w x cs) : cs = [.int .i64 x.f0, .int .u64 x.f1, .int .u64 x.f2] := by
  obtain ⟨_, _, rfl, rfl, ⟨_, _, rfl, rfl, rfl⟩⟩ := h
  exact rfl
theorem k79_openM {w : World} {base : Nat} {ok : Nat → Prop} {x : S79} {cs : List Value} (h : k79.M w base ok x cs) : cs = [.int .i64 x.f0, .int .u64 x.f1, .int .u64 x.f2] := by
  obtain ⟨_, _, rfl, rfl, ⟨_, _, rfl, rfl, rfl⟩⟩ := h
  exact rfl
theorem k79_mk (w : World) (x : S79)  : k79.K w x [.int .i64 x.f0, .int .u64 x.f1, .int .u64 x.f2] := ⟨[.int .i64 x.f0], [.int .u64 x.f1, .int .u64 x.f2], rfl, rfl, ⟨[.int .u64 x.f1], [.int .u64 x.f2], rfl, rfl, rfl⟩⟩
theorem k79_mkM (w : World) (base : Nat) (ok : Nat → Prop) (x : S79)  : k79.M w base ok x [.int .i64 x.f0, .int .u64 x.f1, .int .u64 x.f2] := ⟨[.int .i64 x.f0], [.int .u64 x.f1, .int .u64 x.f2], rfl, rfl, ⟨[.int .u64 x.f1], [.int .u64 x.f2], rfl, rfl, rfl⟩⟩
def rd_T79 (xs : List S79) (i : Int) : S79 := xs.getD i.toNat z79
theorem at_T79 {w : World} {A : Option Addr} {n : Nat} {xs : List S79} (h : Kd.C k79 w A n xs) (i : Int) (h0 : 0 ≤ i) (h1 : i < n) : ∃ ad , A = some ad ∧ w.cell? (ad.add (i.toNat * 3)) = some (.int .i64 (rd_T79 xs i).f0) ∧ w.cell? ⟨(ad.add (i.toNat * 3)).block, (ad.add (i.toNat * 3)).off + 1, none⟩ = some (.int .u64 (rd_T79 xs i).f1) ∧ w.cell? ⟨(ad.add (i.toNat * 3)).block, (ad.add (i.toNat * 3)).off + 2, none⟩ = some (.int .u64 (rd_T79 xs i).f2) := by
  obtain ⟨ad, c, e, _, hK, hc0⟩ := Kd.C_get h z79 i h0 h1
  have hc : ∀ j u, c[j]? = some u → w.cell? (ad.add (i.toNat * 3 + j)) = some u := hc0
  obtain rfl := k79_open hK
  exact ⟨ad, e, hc 0 _ rfl, by rw [← add_field _ _ 1 (by omega)]; exact hc 1 _ rfl, by rw [← add_field _ _ 2 (by omega)]; exact hc 2 _ rfl⟩

end Go.Proofs.YtmoakgkoahjijaaGreatDoor.PPut

-- PRINTED BY print.sh 35421559b90ae4d0a3588c463048766b98c2df88dd9212a6774a882060cdf62d: not written by this session
namespace Go.Proofs.YtmoakgkoahjijaaGreatDoor.PPut
open Go.RowKit Go.Proofs.YtmoakgkoahjijaaGreatDoorW.PrintWords Go.Proofs.YtmoakgkoahjijaaGreatDoorW.PrintLast Go.Proofs.YtmoakgkoahjijaaGreatDoorW.PrintMore
attribute [local go_sem] max2_int min2_int max_two min_two max_three min_three max_four min_four   -- for this text's walks alone
set_option linter.unusedVariables false
set_option linter.unusedSimpArgs false

theorem eqA79 (d : Nat) (w : World) (x0 y0 : Int) (x1 y1 : Int) (x2 y2 : Int) :
    (Op.equalIn (d + 2) 79 (.agg #[.int .i64 x0, .int .u64 x1, .int .u64 x2]) (.agg #[.int .i64 y0, .int .u64 y1, .int .u64 y2])).run Tryz.prog w = .ok (x0 == y0 && (x1 == y1 && (x2 == y2))) w := by
  refine eqA_of Tryz.underlying79 (by kernel_rfl) ?_
  refine eqf_cons (by rfl) (by go_simp; rfl) (by go_simp; rfl) (by go_simp) ?_
  refine eqf_cons (by rfl) (by go_simp; rfl) (by go_simp; rfl) (by go_simp) ?_
  exact eqf_last (by rfl) (by go_simp; rfl) (by go_simp; rfl) (by go_simp)
end Go.Proofs.YtmoakgkoahjijaaGreatDoor.PPut

-- PRINTED BY print.sh 35421559b90ae4d0a3588c463048766b98c2df88dd9212a6774a882060cdf62d: not written by this session
namespace Go.Proofs.YtmoakgkoahjijaaGreatDoor.PPut
open Go.RowKit Go.Proofs.YtmoakgkoahjijaaGreatDoorW.PrintWords Go.Proofs.YtmoakgkoahjijaaGreatDoorW.PrintLast Go.Proofs.YtmoakgkoahjijaaGreatDoorW.PrintMore
attribute [local go_sem] max2_int min2_int max_two min_two max_three min_three max_four min_four   -- for this text's walks alone
set_option linter.unusedVariables false
set_option linter.unusedSimpArgs false

attribute [local go_sem high] eqA79
/-! ### pointsmanref01_Bits: function 43 -/
mutual
def pointsmanref01_Bits.l0 : Nat → List Bool → Int → Int → Int → Int → Option (List Bool)
  | 0, _, _, _, _, _ => none
  | k + 1, x3, x4, x102000, x102001, x102002 => if x4 < x102000 then (pointsmanref01_Bits.j1 k x3 x4 (decide (x4 < 128)) x102000 x102001 x102002) else (pointsmanref01_Bits.j1 k x3 x4 false x102000 x102001 x102002)
def pointsmanref01_Bits.j1 : Nat → List Bool → Int → Bool → Int → Int → Int → Option (List Bool)
  | 0, _, _, _, _, _, _ => none
  | k + 1, x3, x4, x12, x102000, x102001, x102002 => if x12 = true then (if x4 < 64 then (if 0 ≤ x4 then (if x3.length < 140737488355328 then (pointsmanref01_Bits.l0 k (x3 ++ [((Go.bits .and .u64 (shr .u64 x102002 x4) 1) == 1)]) (wrap64 (x4 + 1)) x102000 x102001 x102002) else (none)) else (none)) else (if 0 ≤ (wrap64 (x4 - 64)) then (if x3.length < 140737488355328 then (pointsmanref01_Bits.l0 k (x3 ++ [((Go.bits .and .u64 (shr .u64 x102001 (wrap64 (x4 - 64))) 1) == 1)]) (wrap64 (x4 + 1)) x102000 x102001 x102002) else (none)) else (none))) else (some x3)
end
def pointsmanref01_Bits.f (k : Nat) (a0_0 : Int) (a0_1 : Int) (a0_2 : Int) : Option (List Bool) := pointsmanref01_Bits.l0 k ([] : List Bool) 0 a0_0 a0_1 a0_2
theorem pointsmanref01_Bits.mono_l : ∀ k, (∀ y0 y1 y2 y3 y4, LeO (pointsmanref01_Bits.l0 k y0 y1 y2 y3 y4) (pointsmanref01_Bits.l0 (k + 1) y0 y1 y2 y3 y4)) ∧ (∀ y0 y1 y2 y3 y4 y5, LeO (pointsmanref01_Bits.j1 k y0 y1 y2 y3 y4 y5) (pointsmanref01_Bits.j1 (k + 1) y0 y1 y2 y3 y4 y5))
  | 0 => ⟨fun _ _ _ _ _ r h => by simp [pointsmanref01_Bits.l0] at h, fun _ _ _ _ _ _ r h => by simp [pointsmanref01_Bits.j1] at h⟩
  | k + 1 => by
    obtain ⟨ih0, ih1⟩ := pointsmanref01_Bits.mono_l k
    refine ⟨?_, ?_⟩
    · intro y0 y1 y2 y3 y4
      unfold pointsmanref01_Bits.l0
      repeat' first
      | (with_reducible exact ih0 _ _ _ _ _)
      | (with_reducible exact ih1 _ _ _ _ _ _)
      | (with_reducible exact LeO.refl _)
      | (with_reducible exact LeO.none _)
      | (with_reducible refine LeO.ite ?_ ?_)
      | (with_reducible refine LeO.bind ?_ (fun _ => ?_))
      | exact ih0 _ _ _ _ _
      | exact ih1 _ _ _ _ _ _
      | exact LeO.none _
      | refine LeO.ite ?_ ?_
      | refine LeO.bind ?_ (fun _ => ?_)
    · intro y0 y1 y2 y3 y4 y5
      unfold pointsmanref01_Bits.j1
      repeat' first
      | (with_reducible exact ih0 _ _ _ _ _)
      | (with_reducible exact ih1 _ _ _ _ _ _)
      | (with_reducible exact LeO.refl _)
      | (with_reducible exact LeO.none _)
      | (with_reducible refine LeO.ite ?_ ?_)
      | (with_reducible refine LeO.bind ?_ (fun _ => ?_))
      | exact ih0 _ _ _ _ _
      | exact ih1 _ _ _ _ _ _
      | exact LeO.none _
      | refine LeO.ite ?_ ?_
      | refine LeO.bind ?_ (fun _ => ?_)
theorem pointsmanref01_Bits.mono : ∀ a0 a1 a2 k, LeO (pointsmanref01_Bits.f k a0 a1 a2) (pointsmanref01_Bits.f (k + 1) a0 a1 a2) := by
  intro a0 a1 a2 k
  obtain ⟨ih0, ih1⟩ := pointsmanref01_Bits.mono_l k
  unfold pointsmanref01_Bits.f
  repeat' first
      | (with_reducible exact ih0 _ _ _ _ _)
      | (with_reducible exact ih1 _ _ _ _ _ _)
      | (with_reducible exact LeO.refl _)
      | (with_reducible exact LeO.none _)
      | (with_reducible refine LeO.ite ?_ ?_)
      | (with_reducible refine LeO.bind ?_ (fun _ => ?_))
      | exact ih0 _ _ _ _ _
      | exact ih1 _ _ _ _ _ _
      | exact LeO.none _
      | refine LeO.ite ?_ ?_
      | refine LeO.bind ?_ (fun _ => ?_)
set_option maxHeartbeats 8000000 in
set_option maxRecDepth 100000 in
theorem pointsmanref01_Bits.calls (k : Nat) (a0_0 : Int) (a0_1 : Int) (a0_2 : Int) (r : List Bool) (w : World) (h : pointsmanref01_Bits.f k a0_0 a0_1 a0_2 = some r) :
    Calls Tryz.prog 43 #[.agg #[.int .i64 a0_0, .int .u64 a0_1, .int .u64 a0_2]] w fun e w' => ∃ v0_ : Value, e = .returned (v0_) ∧ Kd.R Kd.bool 4 w' w.heap.size (fun _ => True) v0_ r ∧ Below w.heap.size w w' := by
  have hu79 := Tryz.underlying79
  have HB := Aside0.mk (Below.refl w.heap.size w)
  have H : (pointsmanref01_Bits.l0 k ([] : List Bool) 0 a0_0 a0_1 a0_2) = some r := h
  clear h
  have H' := Aside0.mk H
  clear H
  go_enter Tryz.func43, Tryz.ntmps43
  go_wp2_with (first | ((with_reducible refine gate_dst (N := 1) rfl ?_); refine box_event ?hg (N := 1) ?hd (cs := #[.int .i64 a0_0, .int .u64 a0_1, .int .u64 a0_2]) (t := 79) ?hr ?_; (case hd => rfl); (case hg => rfl); (case hr => first | (go_simp; done) | (go_simp; rfl)); intro gb101 hg w2 hbox hb; have n0_ := Aside0.mk (below_step (by repeat (first | (with_reducible first | exact HB.out | apply below_alloc | apply pw_below_drewN | apply below_drew1) | exact HB.out)) hb); have n1_ := Aside0.mk (hbox); have n2_ := Aside0.mk ((by rw [hg]; exact (below_size (by repeat (first | (with_reducible first | exact HB.out | apply below_alloc | apply pw_below_drewN | apply below_drew1) | exact HB.out))) : w.heap.size ≤ gb101)); have n3_ := Aside0.mk ((by rw [hg]; exact (below_size (by repeat (first | (with_reducible first | exact HB.out | apply below_alloc | apply pw_below_drewN | apply below_drew1) | exact HB.out))) : w.heap.size ≤ gb101)); clear HB; have HB := n0_; have BK101 := n1_; have GW101 := n2_; have GE101 := n3_; clear n0_ n1_ n2_ n3_; clear hb hbox hg))
  go_loopg [3, 4] k (fun kq v3 v4 w' => ∃ (x3_1 : List Bool) (x4_1 : Int), v4 = .int .i64 x4_1 ∧ Aside0 (pointsmanref01_Bits.l0 kq x3_1 x4_1 a0_0 a0_1 a0_2 = some r) ∧ Aside0 (kq ≤ k) ∧ Aside0 (Kd.R Kd.bool 4 w' w.heap.size (fun _ => True) v3 x3_1) ∧ Aside0 (w'.heap[gb101]? = some (.cells #[.int .i64 a0_0, .int .u64 a0_1, .int .u64 a0_2] 79 (0, 0))) ∧ Aside0 (Below w.heap.size w w'))
  case atStart => exact ⟨(([] : List Bool)), (0), (by first | rfl | (simp; done) | (simp [*]; done)), H', ⟨Nat.le_refl _⟩, ⟨by first | exact Kd.R_nil _ _ _ _ _ | exact Kd.N_nil _ _ _ _ _ | exact Kd.V_nil _ _ _ _ _ | exact Kd.Q_nil _ _ _ _ _ | exact Kd.S_nil _ _ _ _ _⟩, ⟨by (with_reducible repeat (first | refine blk_drewN ?_ _ | refine blk_drew ?_ | refine blk_alloc ?_ _)); exact BK101.out⟩, ⟨by repeat (first | (with_reducible first | exact HB.out | apply below_alloc | apply pw_below_drewN | apply below_drew1 | refine below_set ?_ GE101.out) | exact HB.out)⟩⟩
  case round =>
    clear H'
    try clear p2
    obtain ⟨x3_1, x4_1, rfl, HA, HK1, HO_3, BK101, HB⟩ := hrel
    cases gk with
    | zero => exact absurd HA.out (by simp [pointsmanref01_Bits.l0])
    | succ k1 =>
      have H := HA.out
      clear HA
      simp only [pointsmanref01_Bits.l0] at H
      have HC3 := Aside0.mk H
      clear H
      go_upto_region 3 with (fail)
      go_cut [12] (fun v12 wc => ∃ (kq : Nat) (x12_2 : Bool), v12 = .bool x12_2 ∧ Aside0 (pointsmanref01_Bits.j1 kq x3_1 x4_1 x12_2 a0_0 a0_1 a0_2 = some r) ∧ Aside0 (kq ≤ k1) ∧ Aside0 (Kd.R Kd.bool 4 wc w.heap.size (fun _ => True) u3 x3_1) ∧ Aside0 (wc.heap[gb101]? = some (.cells #[.int .i64 a0_0, .int .u64 a0_1, .int .u64 a0_2] 79 (0, 0))) ∧ Aside0 (Below w.heap.size w wc))
      case first =>
        have H := HC3.out
        clear HC3
        by_cases c4 : x4_1 < a0_0
        · rw [if_pos c4] at H
          have c4b0 : decide (x4_1 < a0_0) = true := decide_eq_true c4
          clear c4
          (first | rw [c4b0] | (simp only [i64_w, i32_w]; rw [c4b0]) | skip)
          have H' := Aside0.mk H
          clear H
          have hcz5_0 : wr.cell? ⟨gb101, 0, none⟩ = some (.int .i64 a0_0) := (blk_cell BK101.out 0).trans rfl
          have hcz5_1 : wr.cell? ⟨gb101, 1, none⟩ = some (.int .u64 a0_1) := (blk_cell BK101.out 1).trans rfl
          have hcz5_2 : wr.cell? ⟨gb101, 2, none⟩ = some (.int .u64 a0_2) := (blk_cell BK101.out 2).trans rfl
          have hfz5_0 := blk_frozen BK101.out 0
          have hfz5_1 := blk_frozen BK101.out 1
          have hfz5_2 := blk_frozen BK101.out 2
          go_wp2
          go_meet
          case rel => exact ⟨_, (decide (x4_1 < 128)), (by first | rfl | (simp; done) | (simp [*]; done)), H', ⟨by have := HK1.out; first | omega | exact Nat.le_refl _⟩, ⟨by (with_reducible repeat (first | apply Kd.R_alloc | apply Kd.R_drewN | apply Kd.R_drew)); exact HO_3.out⟩, ⟨by (with_reducible repeat (first | refine blk_drewN ?_ _ | refine blk_drew ?_ | refine blk_alloc ?_ _)); exact BK101.out⟩, ⟨by repeat (first | (with_reducible first | exact HB.out | apply below_alloc | apply pw_below_drewN | apply below_drew1 | refine below_set ?_ GE101.out) | exact HB.out)⟩⟩
        · rw [if_neg c4] at H
          have c4b0 : decide (x4_1 < a0_0) = false := decide_eq_false c4
          clear c4
          (first | rw [c4b0] | (simp only [i64_w, i32_w]; rw [c4b0]) | skip)
          have H' := Aside0.mk H
          clear H
          have hcz6_0 : wr.cell? ⟨gb101, 0, none⟩ = some (.int .i64 a0_0) := (blk_cell BK101.out 0).trans rfl
          have hcz6_1 : wr.cell? ⟨gb101, 1, none⟩ = some (.int .u64 a0_1) := (blk_cell BK101.out 1).trans rfl
          have hcz6_2 : wr.cell? ⟨gb101, 2, none⟩ = some (.int .u64 a0_2) := (blk_cell BK101.out 2).trans rfl
          have hfz6_0 := blk_frozen BK101.out 0
          have hfz6_1 := blk_frozen BK101.out 1
          have hfz6_2 := blk_frozen BK101.out 2
          go_wp2
          go_meet
          case rel => exact ⟨_, (false), (by first | rfl | (simp; done) | (simp [*]; done)), H', ⟨by have := HK1.out; first | omega | exact Nat.le_refl _⟩, ⟨by (with_reducible repeat (first | apply Kd.R_alloc | apply Kd.R_drewN | apply Kd.R_drew)); exact HO_3.out⟩, ⟨by (with_reducible repeat (first | refine blk_drewN ?_ _ | refine blk_drew ?_ | refine blk_alloc ?_ _)); exact BK101.out⟩, ⟨by repeat (first | (with_reducible first | exact HB.out | apply below_alloc | apply pw_below_drewN | apply below_drew1 | refine below_set ?_ GE101.out) | exact HB.out)⟩⟩
      case rest =>
        clear HC3
        try clear p2
        try clear c4
        try clear c4b0
        try clear hcz5_0
        try clear hcz5_1
        try clear hcz5_2
        try clear hcz6_0
        try clear hcz6_1
        try clear hcz6_2
        try clear hfz5_0
        try clear hfz5_1
        try clear hfz5_2
        try clear hfz6_0
        try clear hfz6_1
        try clear hfz6_2
        try clear p2
        obtain ⟨kq, x12_2, rfl, HA, HJ2, HO_3, BK101, HB⟩ := hcut
        cases kq with
        | zero => exact absurd HA.out (by simp [pointsmanref01_Bits.j1])
        | succ kj2 =>
          have H := HA.out
          clear HA
          simp only [pointsmanref01_Bits.j1] at H
          by_cases c7 : x12_2 = true
          · subst c7
            have H1 : (if x4_1 < 64 then (if 0 ≤ x4_1 then (if x3_1.length < 140737488355328 then (pointsmanref01_Bits.l0 kj2 (x3_1 ++ [((Go.bits .and .u64 (shr .u64 a0_2 x4_1) 1) == 1)]) (wrap64 (x4_1 + 1)) a0_0 a0_1 a0_2) else (none)) else (none)) else (if 0 ≤ (wrap64 (x4_1 - 64)) then (if x3_1.length < 140737488355328 then (pointsmanref01_Bits.l0 kj2 (x3_1 ++ [((Go.bits .and .u64 (shr .u64 a0_1 (wrap64 (x4_1 - 64))) 1) == 1)]) (wrap64 (x4_1 + 1)) a0_0 a0_1 a0_2) else (none)) else (none))) = some r := by rw [if_pos rfl] at H; exact H
            clear H
            have H := H1
            clear H1
            by_cases c8 : x4_1 < 64
            · rw [if_pos c8] at H
              have c8b0 : decide (x4_1 < 64) = true := decide_eq_true c8
              clear c8
              by_cases c9 : 0 ≤ x4_1
              · rw [if_pos c9] at H
                have c9b0 := eq_true c9
                have c9b1 : decide (0 ≤ x4_1) = true := decide_eq_true c9
                clear c9
                obtain ⟨ji10, hji10⟩ : ∃ j_ : Int, (shr .u64 a0_2 x4_1) = j_ := ⟨_, rfl⟩
                replace H : (if x3_1.length < 140737488355328 then (pointsmanref01_Bits.l0 kj2 (x3_1 ++ [((Go.bits .and .u64 (ji10) 1) == 1)]) (wrap64 (x4_1 + 1)) a0_0 a0_1 a0_2) else (none)) = some r := by first | (rw [hji10] at H; exact H) | (simp only [hji10] at H ⊢; exact H)
                have hji10_ : (a0_2 / 2 ^ min x4_1.toNat 64) = ji10 := hji10
                have hji10z : x4_1 ≤ 64 → (a0_2 / 2 ^ x4_1.toNat) = ji10 := shr_small hji10
                by_cases c11 : x3_1.length < 140737488355328
                · rw [if_pos c11] at H
                  have LMc11 := Aside0.mk c11
                  clear c11
                  obtain ⟨y102, hy102⟩ : ∃ y_ : List Bool, y_ = (x3_1 ++ [((Go.bits .and .u64 (ji10) 1) == 1)]) := ⟨_, rfl⟩
                  replace H : (pointsmanref01_Bits.l0 kj2 y102 (wrap64 (x4_1 + 1)) a0_0 a0_1 a0_2) = some r := by first | (rw [hy102]; with_reducible exact H) | (have H2_ := (Option.bind_some _ _).symm.trans H; rw [hy102]; with_reducible exact H2_) | (have H2_ := (Option.bind_some _ _).symm.trans H; with_reducible exact H2_) | with_reducible exact H | (rw [hy102]; exact H) | exact H
                  have Ny102 := Aside0.mk hy102
                  clear hy102
                  have H' := Aside0.mk H
                  clear H
                  have hcz12_0 : wc.cell? ⟨gb101, 0, none⟩ = some (.int .i64 a0_0) := (blk_cell BK101.out 0).trans rfl
                  have hcz12_1 : wc.cell? ⟨gb101, 1, none⟩ = some (.int .u64 a0_1) := (blk_cell BK101.out 1).trans rfl
                  have hcz12_2 : wc.cell? ⟨gb101, 2, none⟩ = some (.int .u64 a0_2) := (blk_cell BK101.out 2).trans rfl
                  have hfz12_0 := blk_frozen BK101.out 0
                  have hfz12_1 := blk_frozen BK101.out 1
                  have hfz12_2 := blk_frozen BK101.out 2
                  go_wp2_with (first | ((with_reducible refine gate_builtin (b := .append) (xs := #[.tmp 17, .tmp 24]) rfl ?_); at_builtin; refine Kd.R_append Kd.bool (w0 := w) w.heap.size rfl (.tmp 17) (.tmp 24) 104 4 (.bool false) 1 rfl Tryz.underlying104 info4 rfl (by decide) (by omega) u3 x3_1 ((Go.bits .and .u64 (ji10) 1) == 1) [.bool ((Go.bits .and .u64 (ji10) 1) == 1)] (fun _ => True) (fun _ => False) rfl rfl ?aP (fun _ hk => hk.elim) ?aF ?aO ?aB ?aS ?aL ?_; (case aP => exact rfl); (case aB => exact (by repeat (first | (with_reducible first | exact HB.out | apply below_alloc | apply pw_below_drewN | apply below_drew1 | refine below_set ?_ GE101.out) | exact HB.out))); (case aF => exact (fun _ _ => trivial)); (case aO => exact (by (with_reducible repeat (first | apply Kd.R_alloc | apply Kd.R_drewN | apply Kd.R_drew)); exact HO_3.out)); (case aS => exact (below_size (by repeat (first | (with_reducible first | exact HB.out | apply below_alloc | apply pw_below_drewN | apply below_drew1 | refine below_set ?_ GE101.out) | exact HB.out)))); (case aL => have := LMc11.out; omega); intro v103 w13 ho hb hg hat; rw [← Ny102.out] at ho; have n0_ := Aside0.mk (blk_grown (g := gb101) (o := .cells #[.int .i64 a0_0, .int .u64 a0_1, .int .u64 a0_2] 79 (0, 0)) (by (with_reducible repeat (first | refine blk_drewN ?_ _ | refine blk_drew ?_ | refine blk_alloc ?_ _)); exact BK101.out) hg (Kd.R_ne HO_3.out BK101.out (by decide))); have n1_ := Aside0.mk (hb); have n2_ := Aside0.mk (ho); clear BK101; clear HB; clear HO_3; have BK101 := n0_; have HB := n1_; have HO104 := n2_; clear n0_ n1_ n2_; clear ho hb hg hat))
                  go_roundg kj2
                  case measure => have := HK1.out; have := HJ2.out; omega
                  case rel => exact ⟨(y102), (wrap64 (x4_1 + 1)), (by first | rfl | (simp; done) | (simp [*]; done)), H', ⟨by have := HK1.out; have := HJ2.out; omega⟩, ⟨by (with_reducible repeat (first | apply Kd.R_alloc | apply Kd.R_drewN | apply Kd.R_drew)); exact HO104.out⟩, ⟨by (with_reducible repeat (first | refine blk_drewN ?_ _ | refine blk_drew ?_ | refine blk_alloc ?_ _)); exact BK101.out⟩, ⟨by repeat (first | (with_reducible first | exact HB.out | apply below_alloc | apply pw_below_drewN | apply below_drew1 | refine below_set ?_ GE101.out) | exact HB.out)⟩⟩
                · rw [if_neg c11] at H
                  exact absurd H (by simp)
              · rw [if_neg c9] at H
                exact absurd H (by simp)
            · rw [if_neg c8] at H
              have c8b0 : decide (x4_1 < 64) = false := decide_eq_false c8
              clear c8
              obtain ⟨ji14, hji14⟩ : ∃ j_ : Int, (wrap64 (x4_1 - 64)) = j_ := ⟨_, rfl⟩
              replace H : (if 0 ≤ (ji14) then (if x3_1.length < 140737488355328 then (pointsmanref01_Bits.l0 kj2 (x3_1 ++ [((Go.bits .and .u64 (shr .u64 a0_1 (ji14)) 1) == 1)]) (wrap64 (x4_1 + 1)) a0_0 a0_1 a0_2) else (none)) else (none)) = some r := by first | (rw [hji14] at H; exact H) | (simp only [hji14] at H ⊢; exact H)
              have hji14w : (IntKind.i64.wrap (x4_1 - 64)) = ji14 := (i64_w _).trans hji14
              by_cases c15 : 0 ≤ (ji14)
              · rw [if_pos c15] at H
                have c15b0 := eq_true c15
                have c15b1 : decide (0 ≤ (ji14)) = true := decide_eq_true c15
                clear c15
                obtain ⟨ji16, hji16⟩ : ∃ j_ : Int, (shr .u64 a0_1 (ji14)) = j_ := ⟨_, rfl⟩
                replace H : (if x3_1.length < 140737488355328 then (pointsmanref01_Bits.l0 kj2 (x3_1 ++ [((Go.bits .and .u64 (ji16) 1) == 1)]) (wrap64 (x4_1 + 1)) a0_0 a0_1 a0_2) else (none)) = some r := by first | (rw [hji16] at H; exact H) | (simp only [hji16] at H ⊢; exact H)
                have hji16_ : (a0_1 / 2 ^ min (ji14).toNat 64) = ji16 := hji16
                have hji16z : (ji14) ≤ 64 → (a0_1 / 2 ^ (ji14).toNat) = ji16 := shr_small hji16
                by_cases c17 : x3_1.length < 140737488355328
                · rw [if_pos c17] at H
                  have LMc17 := Aside0.mk c17
                  clear c17
                  obtain ⟨y105, hy105⟩ : ∃ y_ : List Bool, y_ = (x3_1 ++ [((Go.bits .and .u64 (ji16) 1) == 1)]) := ⟨_, rfl⟩
                  replace H : (pointsmanref01_Bits.l0 kj2 y105 (wrap64 (x4_1 + 1)) a0_0 a0_1 a0_2) = some r := by first | (rw [hy105]; with_reducible exact H) | (have H2_ := (Option.bind_some _ _).symm.trans H; rw [hy105]; with_reducible exact H2_) | (have H2_ := (Option.bind_some _ _).symm.trans H; with_reducible exact H2_) | with_reducible exact H | (rw [hy105]; exact H) | exact H
                  have Ny105 := Aside0.mk hy105
                  clear hy105
                  have H' := Aside0.mk H
                  clear H
                  have hcz18_0 : wc.cell? ⟨gb101, 0, none⟩ = some (.int .i64 a0_0) := (blk_cell BK101.out 0).trans rfl
                  have hcz18_1 : wc.cell? ⟨gb101, 1, none⟩ = some (.int .u64 a0_1) := (blk_cell BK101.out 1).trans rfl
                  have hcz18_2 : wc.cell? ⟨gb101, 2, none⟩ = some (.int .u64 a0_2) := (blk_cell BK101.out 2).trans rfl
                  have hfz18_0 := blk_frozen BK101.out 0
                  have hfz18_1 := blk_frozen BK101.out 1
                  have hfz18_2 := blk_frozen BK101.out 2
                  go_wp2_with (first | ((with_reducible refine gate_builtin (b := .append) (xs := #[.tmp 26, .tmp 34]) rfl ?_); at_builtin; refine Kd.R_append Kd.bool (w0 := w) w.heap.size rfl (.tmp 26) (.tmp 34) 104 4 (.bool false) 1 rfl Tryz.underlying104 info4 rfl (by decide) (by omega) u3 x3_1 ((Go.bits .and .u64 (ji16) 1) == 1) [.bool ((Go.bits .and .u64 (ji16) 1) == 1)] (fun _ => True) (fun _ => False) rfl rfl ?aP (fun _ hk => hk.elim) ?aF ?aO ?aB ?aS ?aL ?_; (case aP => exact rfl); (case aB => exact (by repeat (first | (with_reducible first | exact HB.out | apply below_alloc | apply pw_below_drewN | apply below_drew1 | refine below_set ?_ GE101.out) | exact HB.out))); (case aF => exact (fun _ _ => trivial)); (case aO => exact (by (with_reducible repeat (first | apply Kd.R_alloc | apply Kd.R_drewN | apply Kd.R_drew)); exact HO_3.out)); (case aS => exact (below_size (by repeat (first | (with_reducible first | exact HB.out | apply below_alloc | apply pw_below_drewN | apply below_drew1 | refine below_set ?_ GE101.out) | exact HB.out)))); (case aL => have := LMc17.out; omega); intro v106 w19 ho hb hg hat; rw [← Ny105.out] at ho; have n0_ := Aside0.mk (blk_grown (g := gb101) (o := .cells #[.int .i64 a0_0, .int .u64 a0_1, .int .u64 a0_2] 79 (0, 0)) (by (with_reducible repeat (first | refine blk_drewN ?_ _ | refine blk_drew ?_ | refine blk_alloc ?_ _)); exact BK101.out) hg (Kd.R_ne HO_3.out BK101.out (by decide))); have n1_ := Aside0.mk (hb); have n2_ := Aside0.mk (ho); clear BK101; clear HB; clear HO_3; have BK101 := n0_; have HB := n1_; have HO107 := n2_; clear n0_ n1_ n2_; clear ho hb hg hat))
                  go_roundg kj2
                  case measure => have := HK1.out; have := HJ2.out; omega
                  case rel => exact ⟨(y105), (wrap64 (x4_1 + 1)), (by first | rfl | (simp; done) | (simp [*]; done)), H', ⟨by have := HK1.out; have := HJ2.out; omega⟩, ⟨by (with_reducible repeat (first | apply Kd.R_alloc | apply Kd.R_drewN | apply Kd.R_drew)); exact HO107.out⟩, ⟨by (with_reducible repeat (first | refine blk_drewN ?_ _ | refine blk_drew ?_ | refine blk_alloc ?_ _)); exact BK101.out⟩, ⟨by repeat (first | (with_reducible first | exact HB.out | apply below_alloc | apply pw_below_drewN | apply below_drew1 | refine below_set ?_ GE101.out) | exact HB.out)⟩⟩
                · rw [if_neg c17] at H
                  exact absurd H (by simp)
              · rw [if_neg c15] at H
                exact absurd H (by simp)
          · replace c7 := Bool.eq_false_iff.mpr c7
            subst c7
            have H1 : (some x3_1) = some r := by rw [if_neg (show ¬ (false = true) by decide)] at H; exact H
            clear H
            have H := H1
            clear H1
            obtain rfl := Option.some.inj H
            go_wp2
            go_ret
            exact ⟨_, by first | rfl | (simp [errW_none, errW_some] <;> rfl) | (simp [*, errW_none, errW_some] <;> rfl), by (with_reducible repeat (first | apply Kd.R_alloc | apply Kd.R_drewN | apply Kd.R_drew)); exact HO_3.out, by repeat (first | (with_reducible first | exact HB.out | apply below_alloc | apply pw_below_drewN | apply below_drew1 | refine below_set ?_ GE101.out) | exact HB.out)⟩

/-! ### pointsmanref01_Number: function 139 -/
def pointsmanref01_Number.l0 : Nat → List Bool → Int → Int → Int → Int → Option (Int × Int × Int)
  | 0, _, _, _, _, _ => none
  | k + 1, x0, x4, x110000, x110001, x110002 => if x4 < (x0.length : Int) then (if 0 ≤ x4 then (if rdOf false x0 x4 = true then (if x4 < 64 then (pointsmanref01_Number.l0 k x0 (wrap64 (x4 + 1)) x110000 x110001 (Go.bits .or .u64 x110002 (shl .u64 1 x4))) else (if 0 ≤ (wrap64 (x4 - 64)) then (pointsmanref01_Number.l0 k x0 (wrap64 (x4 + 1)) x110000 (Go.bits .or .u64 x110001 (shl .u64 1 (wrap64 (x4 - 64)))) x110002) else (none))) else (pointsmanref01_Number.l0 k x0 (wrap64 (x4 + 1)) x110000 x110001 x110002)) else (none)) else (some (x110000, x110001, x110002))
def pointsmanref01_Number.f (k : Nat) (l0 : List Bool) : Option (Int × Int × Int) := pointsmanref01_Number.l0 k l0 0 (l0.length : Int) 0 0
theorem pointsmanref01_Number.mono_l : ∀ k, (∀ y0 y1 y2 y3 y4, LeO (pointsmanref01_Number.l0 k y0 y1 y2 y3 y4) (pointsmanref01_Number.l0 (k + 1) y0 y1 y2 y3 y4))
  | 0 => fun _ _ _ _ _ r h => by simp [pointsmanref01_Number.l0] at h
  | k + 1 => by
    have ih0 := pointsmanref01_Number.mono_l k
    · intro y0 y1 y2 y3 y4
      unfold pointsmanref01_Number.l0
      repeat' first
      | (with_reducible exact ih0 _ _ _ _ _)
      | (with_reducible exact LeO.refl _)
      | (with_reducible exact LeO.none _)
      | (with_reducible refine LeO.ite ?_ ?_)
      | (with_reducible refine LeO.bind ?_ (fun _ => ?_))
      | exact ih0 _ _ _ _ _
      | exact LeO.none _
      | refine LeO.ite ?_ ?_
      | refine LeO.bind ?_ (fun _ => ?_)
theorem pointsmanref01_Number.mono : ∀ a0 k, LeO (pointsmanref01_Number.f k a0) (pointsmanref01_Number.f (k + 1) a0) := by
  intro a0 k
  have ih0 := pointsmanref01_Number.mono_l k
  unfold pointsmanref01_Number.f
  repeat' first
      | (with_reducible exact ih0 _ _ _ _ _)
      | (with_reducible exact LeO.refl _)
      | (with_reducible exact LeO.none _)
      | (with_reducible refine LeO.ite ?_ ?_)
      | (with_reducible refine LeO.bind ?_ (fun _ => ?_))
      | exact ih0 _ _ _ _ _
      | exact LeO.none _
      | refine LeO.ite ?_ ?_
      | refine LeO.bind ?_ (fun _ => ?_)
def pointsmanref01_Number.T8 : Bool × List (List Nat × List Nat) := (true, [([], []), ([0], [0]), ([], []), ([2], [2]), ([3], [3]), ([1, 4], [1, 4]), ([0, 1, 2, 3, 4, 5], []), ([6, 5, 0, 1, 2, 3, 4, 5], [5, 6])])
def pointsmanref01_Number.B8 : List Nat := [0, 1, 0, 4, 12, 31, 63, 127]
theorem pointsmanref01_Number.tab8 : rtab .any (opsOf Tryz.f139 8) = pointsmanref01_Number.T8 := by kernel_rfl
theorem pointsmanref01_Number.bits8 : waitsOk pointsmanref01_Number.T8.2 pointsmanref01_Number.B8 = true := by kernel_rfl
set_option maxHeartbeats 8000000 in
set_option maxRecDepth 100000 in
theorem pointsmanref01_Number.calls (k : Nat) (A0 : Option Addr) (c0 : Nat) (l0 : List Bool) (r1 : Int) (r2 : Int) (r3 : Int) (w : World) (hr0 : Kd.C Kd.bool w A0 l0.length l0) (hc0 : l0.length ≤ c0) (h : pointsmanref01_Number.f k l0 = some (r1, r2, r3)) :
    Calls Tryz.prog 139 #[.slice A0 l0.length c0] w fun e w' => e = .returned (.agg #[.int .i64 r1, .int .u64 r2, .int .u64 r3]) ∧ Below w.heap.size w w' := by
  have hu79 := Tryz.underlying79
  have HR0 := Aside0.mk hr0
  have HC0 := Aside0.mk hc0
  clear hr0 hc0
  have HB := Aside0.mk (Below.refl w.heap.size w)
  have H : (pointsmanref01_Number.l0 k l0 0 (l0.length : Int) 0 0) = some (r1, r2, r3) := h
  clear h
  have H' := Aside0.mk H
  clear H
  go_enter Tryz.func139, Tryz.ntmps139
  go_wp2_with (first | ((with_reducible refine gate_dst (N := 2) rfl ?_); refine box_event ?hg (N := 2) ?hd (cs := #[.int .i64 0, .int .u64 0, .int .u64 0]) (t := 79) ?hr ?_; (case hd => rfl); (case hg => rfl); (case hr => first | (go_simp; done) | (go_simp; rfl)); intro gb108 hg w2 hbox hb; have n0_ := Aside0.mk (below_step (by repeat (first | (with_reducible first | exact HB.out | apply below_alloc | apply pw_below_drewN | apply below_drew1) | exact HB.out)) hb); have n1_ := Aside0.mk (hbox); have n2_ := Aside0.mk ((by rw [hg]; exact (below_size (by repeat (first | (with_reducible first | exact HB.out | apply below_alloc | apply pw_below_drewN | apply below_drew1) | exact HB.out))) : w.heap.size ≤ gb108)); have n3_ := Aside0.mk ((by rw [hg]; exact (below_size (by repeat (first | (with_reducible first | exact HB.out | apply below_alloc | apply pw_below_drewN | apply below_drew1) | exact HB.out))) : w.heap.size ≤ gb108)); clear HB; have HB := n0_; have BK108 := n1_; have GW108 := n2_; have GE108 := n3_; clear n0_ n1_ n2_ n3_; clear hb hbox hg) | ((with_reducible refine gate_dst (N := 3) rfl ?_); refine box_event ?hg (N := 3) ?hd (cs := #[.int .i64 0, .int .u64 0, .int .u64 0]) (t := 79) ?hr ?_; (case hd => rfl); (case hg => rfl); (case hr => first | (go_simp; done) | (go_simp; rfl)); intro gb109 hg w3 hbox hb; have n0_ := Aside0.mk (blk_below (g := gb108) (o := .cells #[.int .i64 0, .int .u64 0, .int .u64 0] 79 (0, 0)) (by (with_reducible repeat (first | refine blk_drewN ?_ _ | refine blk_drew ?_ | refine blk_alloc ?_ _)); exact BK108.out) hb); have n1_ := Aside0.mk (below_step (by repeat (first | (with_reducible first | exact HB.out | apply below_alloc | apply pw_below_drewN | apply below_drew1 | refine below_set ?_ GE108.out) | exact HB.out)) hb); have n2_ := Aside0.mk (hbox); have n3_ := Aside0.mk ((by rw [hg]; exact (below_size (by repeat (first | (with_reducible first | exact HB.out | apply below_alloc | apply pw_below_drewN | apply below_drew1 | refine below_set ?_ GE108.out) | exact HB.out))) : w.heap.size ≤ gb109)); have n4_ := Aside0.mk ((by rw [hg]; exact (below_size (by repeat (first | (with_reducible first | exact HB.out | apply below_alloc | apply pw_below_drewN | apply below_drew1 | refine below_set ?_ GE108.out) | exact HB.out))) : w.heap.size ≤ gb109)); have n5_ := Aside0.mk ((by rw [hg]; exact Nat.ne_of_lt (blk_lt (g := gb108) (o := .cells #[.int .i64 0, .int .u64 0, .int .u64 0] 79 (0, 0)) (by (with_reducible repeat (first | refine blk_drewN ?_ _ | refine blk_drew ?_ | refine blk_alloc ?_ _)); exact BK108.out)) : gb108 ≠ gb109)); have n6_ := Aside0.mk ((by rw [hg]; exact Nat.ne_of_gt (blk_lt (g := gb108) (o := .cells #[.int .i64 0, .int .u64 0, .int .u64 0] 79 (0, 0)) (by (with_reducible repeat (first | refine blk_drewN ?_ _ | refine blk_drew ?_ | refine blk_alloc ?_ _)); exact BK108.out)) : gb109 ≠ gb108)); clear BK108; clear HB; have BK108 := n0_; have HB := n1_; have BK109 := n2_; have GW109 := n3_; have GE109 := n4_; have NB108_109 := n5_; have NB109_108 := n6_; clear n0_ n1_ n2_ n3_ n4_ n5_ n6_; clear hb hbox hg; have hnb4 := NB109_108.out; have hnc4 := NB108_109.out; have hcz5_0 : w3.cell? ⟨gb109, 0, none⟩ = some (.int .i64 0) := (blk_cell BK109.out 0).trans rfl; have hcz5_1 : w3.cell? ⟨gb109, 1, none⟩ = some (.int .u64 0) := (blk_cell BK109.out 1).trans rfl; have hcz5_2 : w3.cell? ⟨gb109, 2, none⟩ = some (.int .u64 0) := (blk_cell BK109.out 2).trans rfl; have hfz5_0 := blk_frozen BK109.out 0; have hfz5_1 := blk_frozen BK109.out 1; have hfz5_2 := blk_frozen BK109.out 2))
  go_loopg [4] k (fun kq v4 w' => ∃ (x4_1 : Int) (x110001_1 : Int) (x110002_1 : Int), v4 = .int .i64 x4_1 ∧ Aside0 (pointsmanref01_Number.l0 kq l0 x4_1 (l0.length : Int) x110001_1 x110002_1 = some (r1, r2, r3)) ∧ Aside0 (kq ≤ k) ∧ Aside0 (w'.heap[gb108]? = some (.cells #[.int .i64 0, .int .u64 0, .int .u64 0] 79 (0, 0))) ∧ Aside0 (w'.heap[gb109]? = some (.cells #[.int .i64 (l0.length : Int), .int .u64 x110001_1, .int .u64 x110002_1] 79 (0, 0))) ∧ Aside0 (Below w.heap.size w w'))
  case atStart => exact ⟨(0), (0), (0), (by first | rfl | (simp; done) | (simp [*]; done)), H', ⟨Nat.le_refl _⟩, ⟨by (with_reducible repeat (first | refine blk_drewN ?_ _ | refine blk_drew ?_ | refine blk_alloc ?_ _)); refine blk_far ?_ NB108_109.out _; (with_reducible repeat (first | refine blk_drewN ?_ _ | refine blk_drew ?_ | refine blk_alloc ?_ _)); refine blk_far ?_ NB108_109.out _; (with_reducible repeat (first | refine blk_drewN ?_ _ | refine blk_drew ?_ | refine blk_alloc ?_ _)); refine blk_far ?_ NB108_109.out _; (with_reducible repeat (first | refine blk_drewN ?_ _ | refine blk_drew ?_ | refine blk_alloc ?_ _)); exact BK108.out⟩, ⟨by (with_reducible repeat (first | refine blk_drewN ?_ _ | refine blk_drew ?_ | refine blk_alloc ?_ _)); refine blk_put (cs := #[.int .i64 (l0.length : Int), .int .u64 0, .int .u64 0]) ?_ 2 _ rfl; (with_reducible repeat (first | refine blk_drewN ?_ _ | refine blk_drew ?_ | refine blk_alloc ?_ _)); refine blk_put (cs := #[.int .i64 (l0.length : Int), .int .u64 0, .int .u64 0]) ?_ 1 _ rfl; (with_reducible repeat (first | refine blk_drewN ?_ _ | refine blk_drew ?_ | refine blk_alloc ?_ _)); refine blk_put (cs := #[.int .i64 0, .int .u64 0, .int .u64 0]) ?_ 0 _ rfl; (with_reducible repeat (first | refine blk_drewN ?_ _ | refine blk_drew ?_ | refine blk_alloc ?_ _)); exact BK109.out⟩, ⟨by repeat (first | (with_reducible first | exact HB.out | apply below_alloc | apply pw_below_drewN | apply below_drew1 | refine below_set ?_ GE108.out | refine below_set ?_ GE109.out) | exact HB.out)⟩⟩
  case round =>
    clear H'
    try clear c1
    try clear p2
    try clear c4
    try clear hcz5_0
    try clear hcz5_1
    try clear hcz5_2
    try clear hfz5_0
    try clear hfz5_1
    try clear hfz5_2
    obtain ⟨x4_1, x110001_1, x110002_1, rfl, HA, HK1, BK108, BK109, HB⟩ := hrel
    cases gk with
    | zero => exact absurd HA.out (by simp [pointsmanref01_Number.l0])
    | succ k1 =>
      have H := HA.out
      clear HA
      simp only [pointsmanref01_Number.l0] at H
      by_cases c6 : x4_1 < (l0.length : Int)
      · rw [if_pos c6] at H
        have c6b0 : decide (x4_1 < (l0.length : Int)) = true := decide_eq_true c6
        clear c6
        by_cases c7 : 0 ≤ x4_1
        · rw [if_pos c7] at H
          have c7b0 : decide (0 ≤ x4_1) = true := decide_eq_true c7
          clear c7
          obtain ⟨bq8, hbq8⟩ : ∃ b_ : Bool, b_ = (rdOf false l0 x4_1) := ⟨_, rfl⟩
          replace H : (if bq8 = true then (if x4_1 < 64 then (pointsmanref01_Number.l0 k1 l0 (wrap64 (x4_1 + 1)) (l0.length : Int) x110001_1 (Go.bits .or .u64 x110002_1 (shl .u64 1 x4_1))) else (if 0 ≤ (wrap64 (x4_1 - 64)) then (pointsmanref01_Number.l0 k1 l0 (wrap64 (x4_1 + 1)) (l0.length : Int) (Go.bits .or .u64 x110001_1 (shl .u64 1 (wrap64 (x4_1 - 64)))) x110002_1) else (none))) else (pointsmanref01_Number.l0 k1 l0 (wrap64 (x4_1 + 1)) (l0.length : Int) x110001_1 x110002_1)) = some (r1, r2, r3) := by rw [← hbq8] at H; exact H
          have Nbq8 := Aside0.mk hbq8
          clear hbq8
          by_cases c9 : bq8 = true
          · subst c9
            have H1 : (if x4_1 < 64 then (pointsmanref01_Number.l0 k1 l0 (wrap64 (x4_1 + 1)) (l0.length : Int) x110001_1 (Go.bits .or .u64 x110002_1 (shl .u64 1 x4_1))) else (if 0 ≤ (wrap64 (x4_1 - 64)) then (pointsmanref01_Number.l0 k1 l0 (wrap64 (x4_1 + 1)) (l0.length : Int) (Go.bits .or .u64 x110001_1 (shl .u64 1 (wrap64 (x4_1 - 64)))) x110002_1) else (none))) = some (r1, r2, r3) := by rw [if_pos rfl] at H; exact H
            clear H
            have H := H1
            clear H1
            by_cases c10 : x4_1 < 64
            · rw [if_pos c10] at H
              have c10b0 : decide (x4_1 < 64) = true := decide_eq_true c10
              clear c10
              have c11b0 := eq_true (of_decide_eq_true (by first | (with_reducible assumption) | assumption) : 0 ≤ x4_1)
              obtain ⟨ji12, hji12⟩ : ∃ j_ : Int, (shl .u64 1 x4_1) = j_ := ⟨_, rfl⟩
              replace H : (pointsmanref01_Number.l0 k1 l0 (wrap64 (x4_1 + 1)) (l0.length : Int) x110001_1 (Go.bits .or .u64 x110002_1 (ji12))) = some (r1, r2, r3) := by first | (rw [hji12] at H; exact H) | (simp only [hji12] at H ⊢; exact H)
              have hji12_ : (IntKind.u64.wrap (1 * 2 ^ min x4_1.toNat 64)) = ji12 := hji12
              have hji12z : x4_1 ≤ 64 → (IntKind.u64.wrap (1 * 2 ^ x4_1.toNat)) = ji12 := shl_small hji12
              have hji12u : (IntKind.u64.wrap (2 ^ min x4_1.toNat 64)) = ji12 := by have h_ := hji12_; rw [Int.one_mul] at h_; exact h_
              have hji12v : x4_1 ≤ 64 → (IntKind.u64.wrap (2 ^ x4_1.toNat)) = ji12 := fun hle_ => by have h_ := hji12z hle_; rw [Int.one_mul] at h_; exact h_
              have H' := Aside0.mk H
              clear H
              have p110 : 0 ≤ (x4_1 : Int) := of_decide_eq_true (by first | (with_reducible assumption) | assumption)
              have q110 : x4_1 < (l0.length : Int) := of_decide_eq_true (by first | (with_reducible assumption) | assumption)
              obtain ⟨ad110, e110, hx110_0⟩ := Kd.at_bool HR0.out x4_1 p110 q110
              (try rw [← Nbq8.out] at hx110_0)
              cases e110
              replace hx110_0 := (HB.out.cell (World.block_lt_of_cell? w _ hx110_0)).trans hx110_0
              replace p110 := eq_true p110
              replace q110 := eq_true q110
              try go_wp2
              have n0_ := Aside0.mk (blk_drew BK108.out)
              have n1_ := Aside0.mk (blk_drew BK109.out)
              have n2_ := Aside0.mk (below_drew1 HB.out)
              clear BK108
              clear BK109
              clear HB
              have BK108 := n0_
              have BK109 := n1_
              have HB := n2_
              clear n0_ n1_ n2_
              refine start_ (n := 7) (S := fun w' => w'.cell? ⟨gb109, 0, none⟩ = some (.int .i64 (l0.length : Int)) ∧ w'.cell? ⟨gb109, 1, none⟩ = some (.int .u64 x110001_1) ∧ w'.cell? ⟨gb109, 2, none⟩ = some (.int .u64 x110002_1)) (ds := [6]) #[false, false, false, false, false, false, false] (by kernel_rfl) rfl rfl ⟨(blk_cell BK109.out 0).trans rfl, (blk_cell BK109.out 1).trans rfl, (blk_cell BK109.out 2).trans rfl⟩ (fun hHeld => ?_)
              generalize wr.drew = w13 at BK108 BK109 HB hHeld ⊢
              refine pure_ (i := 0) (N := some 21) (v := ?_) (a' := ?_) #[true, false, false, false, false, false, false] rfl rfl (by kernel_rfl) (fun _ _ _ h => h) (Or.inl ⟨by rfl, ?_⟩) ?_ ?_
              rotate_left
              · intro w'
                go_simp
                with_reducible rfl
              rotate_left
              · simp only [Act.put, List.setIfInBounds_toArray, List.set_cons_zero, List.set_cons_succ, i64_w, i32_w]
                rfl
              refine pure_ (i := 2) (N := some 23) (v := ?_) (a' := ?_) #[true, false, true, false, false, false, false] rfl rfl (by kernel_rfl) (fun _ _ _ h => h) (Or.inl ⟨by rfl, ?_⟩) ?_ ?_
              rotate_left
              · intro w'
                go_simp
                with_reducible rfl
              rotate_left
              · simp only [Act.put, List.setIfInBounds_toArray, List.set_cons_zero, List.set_cons_succ, i64_w, i32_w]
                rfl
              refine pure_ (i := 3) (N := some 24) (v := ?_) (a' := ?_) #[true, false, true, true, false, false, false] rfl rfl (by kernel_rfl) (fun _ _ _ h => h) (Or.inl ⟨by rfl, ?_⟩) ?_ ?_
              rotate_left
              · intro w'
                go_simp
                with_reducible rfl
              rotate_left
              · simp only [Act.put, List.setIfInBounds_toArray, List.set_cons_zero, List.set_cons_succ, i64_w, i32_w]
                rfl
              refine take_ (i := 1) (N := some 22) (v := ?_) (a' := ?_) #[true, true, true, true, false, false, false] rfl rfl (by kernel_rfl) (fun _ _ _ h => h) (Or.inl ⟨by rfl, ?_⟩) hHeld ?_ ?_
              rotate_left
              · rintro w' ⟨s0, s1, s2⟩
                go_simp
                with_reducible rfl
              rotate_left
              · simp only [Act.put, List.setIfInBounds_toArray, List.set_cons_zero, List.set_cons_succ, i64_w, i32_w]
                rfl
              refine pure_ (i := 4) (N := some 25) (v := ?_) (a' := ?_) #[true, true, true, true, true, false, false] rfl rfl (by kernel_rfl) (fun _ _ _ h => h) (Or.inl ⟨by rfl, ?_⟩) ?_ ?_
              rotate_left
              · intro w'
                go_simp
                with_reducible rfl
              rotate_left
              · simp only [Act.put, List.setIfInBounds_toArray, List.set_cons_zero, List.set_cons_succ, i64_w, i32_w]
                rfl
              refine pure_ (i := 5) (N := some 26) (v := ?_) (a' := ?_) #[true, true, true, true, true, true, false] rfl rfl (by kernel_rfl) (fun _ _ _ h => h) (Or.inl ⟨by rfl, ?_⟩) ?_ ?_
              rotate_left
              · intro w'
                go_simp
                with_reducible rfl
              rotate_left
              · simp only [Act.put, List.setIfInBounds_toArray, List.set_cons_zero, List.set_cons_succ, i64_w, i32_w]
                rfl
              refine last_ (i := 6) (N := none) #[true, true, true, true, true, true, true] rfl rfl (by kernel_rfl) (by decide) (fun K hK => ?_)
              have hs14 : w13.cell? ⟨gb109, 2, none⟩ = some (.int .u64 x110002_1) := (blk_cell BK109.out 2).trans rfl
              have hfs14 := blk_frozen BK109.out 2
              have hns14_0 := NB108_109.out
              have hms14_0 := NB109_108.out
              refine skip_ (w1 := ?_) (by rfl) rfl ?_ ?_
              rotate_left
              · go_simp
                rfl
              refine hK.out _ _ ?_
              clear hK K
              refine done_ (by kernel_rfl) ?_
              try go_wp2
              go_roundg k1
              case measure => have := HK1.out; omega
              case rel => exact ⟨(wrap64 (x4_1 + 1)), (x110001_1), (Go.bits .or .u64 x110002_1 (ji12)), (by first | rfl | (simp; done) | (simp [*]; done)), H', ⟨by have := HK1.out; omega⟩, ⟨by (with_reducible repeat (first | refine blk_drewN ?_ _ | refine blk_drew ?_ | refine blk_alloc ?_ _)); refine blk_far ?_ NB108_109.out _; (with_reducible repeat (first | refine blk_drewN ?_ _ | refine blk_drew ?_ | refine blk_alloc ?_ _)); exact BK108.out⟩, ⟨by (with_reducible repeat (first | refine blk_drewN ?_ _ | refine blk_drew ?_ | refine blk_alloc ?_ _)); refine blk_put (cs := #[.int .i64 (l0.length : Int), .int .u64 x110001_1, .int .u64 x110002_1]) ?_ 2 _ rfl; (with_reducible repeat (first | refine blk_drewN ?_ _ | refine blk_drew ?_ | refine blk_alloc ?_ _)); exact BK109.out⟩, ⟨by repeat (first | (with_reducible first | exact HB.out | apply below_alloc | apply pw_below_drewN | apply below_drew1 | refine below_set ?_ GE108.out | refine below_set ?_ GE109.out) | exact HB.out)⟩⟩
            · rw [if_neg c10] at H
              have c10b0 : decide (x4_1 < 64) = false := decide_eq_false c10
              clear c10
              obtain ⟨ji15, hji15⟩ : ∃ j_ : Int, (wrap64 (x4_1 - 64)) = j_ := ⟨_, rfl⟩
              replace H : (if 0 ≤ (ji15) then (pointsmanref01_Number.l0 k1 l0 (wrap64 (x4_1 + 1)) (l0.length : Int) (Go.bits .or .u64 x110001_1 (shl .u64 1 (ji15))) x110002_1) else (none)) = some (r1, r2, r3) := by first | (rw [hji15] at H; exact H) | (simp only [hji15] at H ⊢; exact H)
              have hji15w : (IntKind.i64.wrap (x4_1 - 64)) = ji15 := (i64_w _).trans hji15
              by_cases c16 : 0 ≤ (ji15)
              · rw [if_pos c16] at H
                have c16b0 := eq_true c16
                have c16b1 : decide (0 ≤ (ji15)) = true := decide_eq_true c16
                clear c16
                obtain ⟨ji17, hji17⟩ : ∃ j_ : Int, (shl .u64 1 (ji15)) = j_ := ⟨_, rfl⟩
                replace H : (pointsmanref01_Number.l0 k1 l0 (wrap64 (x4_1 + 1)) (l0.length : Int) (Go.bits .or .u64 x110001_1 (ji17)) x110002_1) = some (r1, r2, r3) := by first | (rw [hji17] at H; exact H) | (simp only [hji17] at H ⊢; exact H)
                have hji17_ : (IntKind.u64.wrap (1 * 2 ^ min (ji15).toNat 64)) = ji17 := hji17
                have hji17z : (ji15) ≤ 64 → (IntKind.u64.wrap (1 * 2 ^ (ji15).toNat)) = ji17 := shl_small hji17
                have hji17u : (IntKind.u64.wrap (2 ^ min (ji15).toNat 64)) = ji17 := by have h_ := hji17_; rw [Int.one_mul] at h_; exact h_
                have hji17v : (ji15) ≤ 64 → (IntKind.u64.wrap (2 ^ (ji15).toNat)) = ji17 := fun hle_ => by have h_ := hji17z hle_; rw [Int.one_mul] at h_; exact h_
                have H' := Aside0.mk H
                clear H
                have p110 : 0 ≤ (x4_1 : Int) := of_decide_eq_true (by first | (with_reducible assumption) | assumption)
                have q110 : x4_1 < (l0.length : Int) := of_decide_eq_true (by first | (with_reducible assumption) | assumption)
                obtain ⟨ad110, e110, hx110_0⟩ := Kd.at_bool HR0.out x4_1 p110 q110
                (try rw [← Nbq8.out] at hx110_0)
                cases e110
                replace hx110_0 := (HB.out.cell (World.block_lt_of_cell? w _ hx110_0)).trans hx110_0
                replace p110 := eq_true p110
                replace q110 := eq_true q110
                try go_wp2
                have n0_ := Aside0.mk (blk_drew BK108.out)
                have n1_ := Aside0.mk (blk_drew BK109.out)
                have n2_ := Aside0.mk (below_drew1 HB.out)
                clear BK108
                clear BK109
                clear HB
                have BK108 := n0_
                have BK109 := n1_
                have HB := n2_
                clear n0_ n1_ n2_
                refine start_ (n := 8) (S := fun w' => w'.cell? ⟨gb109, 0, none⟩ = some (.int .i64 (l0.length : Int)) ∧ w'.cell? ⟨gb109, 1, none⟩ = some (.int .u64 x110001_1) ∧ w'.cell? ⟨gb109, 2, none⟩ = some (.int .u64 x110002_1)) (ds := [7]) #[false, false, false, false, false, false, false, false] (by kernel_rfl) rfl rfl ⟨(blk_cell BK109.out 0).trans rfl, (blk_cell BK109.out 1).trans rfl, (blk_cell BK109.out 2).trans rfl⟩ (fun hHeld => ?_); refine with_tabW pointsmanref01_Number.tab8 pointsmanref01_Number.bits8 (fun HT_ HW_ => ?_)
                generalize wr.drew = w18 at BK108 BK109 HB hHeld ⊢
                refine pure_ (i := 0) (N := some 27) (v := ?_) (a' := ?_) #[true, false, false, false, false, false, false, false] rfl rfl (any_of HT_.out (by kernel_rfl)) (fun _ _ _ h => h) (Or.inl ⟨by rfl, ?_⟩) ?_ ?_
                rotate_left
                · intro w'
                  go_simp
                  with_reducible rfl
                rotate_left
                · simp only [Act.put, List.setIfInBounds_toArray, List.set_cons_zero, List.set_cons_succ, i64_w, i32_w]
                  rfl
                refine pure_ (i := 2) (N := some 29) (v := ?_) (a' := ?_) #[true, false, true, false, false, false, false, false] rfl rfl (any_of HT_.out (by kernel_rfl)) (fun _ _ _ h => h) (Or.inl ⟨by rfl, ?_⟩) ?_ ?_
                rotate_left
                · intro w'
                  go_simp
                  with_reducible rfl
                rotate_left
                · simp only [Act.put, List.setIfInBounds_toArray, List.set_cons_zero, List.set_cons_succ, i64_w, i32_w]
                  rfl
                refine pure_ (i := 3) (N := some 30) (v := ?_) (a' := ?_) #[true, false, true, true, false, false, false, false] rfl rfl (any_of HT_.out (by kernel_rfl)) (fun _ _ _ h => h) (Or.inl ⟨by rfl, ?_⟩) ?_ ?_
                rotate_left
                · intro w'
                  go_simp
                  with_reducible rfl
                rotate_left
                · simp only [Act.put, List.setIfInBounds_toArray, List.set_cons_zero, List.set_cons_succ, i64_w, i32_w]
                  rfl
                refine pure_ (i := 4) (N := some 31) (v := ?_) (a' := ?_) #[true, false, true, true, true, false, false, false] rfl rfl (any_of HT_.out (by kernel_rfl)) (fun _ _ _ h => h) (Or.inl ⟨by rfl, ?_⟩) ?_ ?_
                rotate_left
                · intro w'
                  go_simp
                  with_reducible rfl
                rotate_left
                · simp only [Act.put, List.setIfInBounds_toArray, List.set_cons_zero, List.set_cons_succ, i64_w, i32_w]
                  rfl
                refine take_ (i := 1) (N := some 28) (v := ?_) (a' := ?_) #[true, true, true, true, true, false, false, false] rfl rfl (take_ofW HT_.out HW_.out (by kernel_rfl)) (fun _ _ _ h => h) (Or.inl ⟨by rfl, ?_⟩) hHeld ?_ ?_
                rotate_left
                · rintro w' ⟨s0, s1, s2⟩
                  go_simp
                  with_reducible rfl
                rotate_left
                · simp only [Act.put, List.setIfInBounds_toArray, List.set_cons_zero, List.set_cons_succ, i64_w, i32_w]
                  rfl
                refine pure_ (i := 5) (N := some 32) (v := ?_) (a' := ?_) #[true, true, true, true, true, true, false, false] rfl rfl (any_of HT_.out (by kernel_rfl)) (fun _ _ _ h => h) (Or.inl ⟨by rfl, ?_⟩) ?_ ?_
                rotate_left
                · intro w'
                  go_simp
                  with_reducible rfl
                rotate_left
                · simp only [Act.put, List.setIfInBounds_toArray, List.set_cons_zero, List.set_cons_succ, i64_w, i32_w]
                  rfl
                refine pure_ (i := 6) (N := some 33) (v := ?_) (a' := ?_) #[true, true, true, true, true, true, true, false] rfl rfl (any_of HT_.out (by kernel_rfl)) (fun _ _ _ h => h) (Or.inl ⟨by rfl, ?_⟩) ?_ ?_
                rotate_left
                · intro w'
                  go_simp
                  with_reducible rfl
                rotate_left
                · simp only [Act.put, List.setIfInBounds_toArray, List.set_cons_zero, List.set_cons_succ, i64_w, i32_w]
                  rfl
                refine last_ (i := 7) (N := none) #[true, true, true, true, true, true, true, true] rfl rfl (one_of HT_.out (by kernel_rfl)) (by decide) (fun K hK => ?_)
                have hs19 : w18.cell? ⟨gb109, 1, none⟩ = some (.int .u64 x110001_1) := (blk_cell BK109.out 1).trans rfl
                have hfs19 := blk_frozen BK109.out 1
                have hns19_0 := NB108_109.out
                have hms19_0 := NB109_108.out
                refine skip_ (w1 := ?_) (by rfl) rfl ?_ ?_
                rotate_left
                · go_simp
                  rfl
                refine hK.out _ _ ?_
                clear hK K
                refine done_ (done_of HT_.out (by kernel_rfl)) ?_
                try go_wp2
                go_roundg k1
                case measure => have := HK1.out; omega
                case rel => exact ⟨(wrap64 (x4_1 + 1)), (Go.bits .or .u64 x110001_1 (ji17)), (x110002_1), (by first | rfl | (simp; done) | (simp [*]; done)), H', ⟨by have := HK1.out; omega⟩, ⟨by (with_reducible repeat (first | refine blk_drewN ?_ _ | refine blk_drew ?_ | refine blk_alloc ?_ _)); refine blk_far ?_ NB108_109.out _; (with_reducible repeat (first | refine blk_drewN ?_ _ | refine blk_drew ?_ | refine blk_alloc ?_ _)); exact BK108.out⟩, ⟨by (with_reducible repeat (first | refine blk_drewN ?_ _ | refine blk_drew ?_ | refine blk_alloc ?_ _)); refine blk_put (cs := #[.int .i64 (l0.length : Int), .int .u64 x110001_1, .int .u64 x110002_1]) ?_ 1 _ rfl; (with_reducible repeat (first | refine blk_drewN ?_ _ | refine blk_drew ?_ | refine blk_alloc ?_ _)); exact BK109.out⟩, ⟨by repeat (first | (with_reducible first | exact HB.out | apply below_alloc | apply pw_below_drewN | apply below_drew1 | refine below_set ?_ GE108.out | refine below_set ?_ GE109.out) | exact HB.out)⟩⟩
              · rw [if_neg c16] at H
                exact absurd H (by simp)
          · replace c9 := Bool.eq_false_iff.mpr c9
            subst c9
            have H1 : (pointsmanref01_Number.l0 k1 l0 (wrap64 (x4_1 + 1)) (l0.length : Int) x110001_1 x110002_1) = some (r1, r2, r3) := by rw [if_neg (show ¬ (false = true) by decide)] at H; exact H
            clear H
            have H := H1
            clear H1
            have H' := Aside0.mk H
            clear H
            have p110 : 0 ≤ (x4_1 : Int) := of_decide_eq_true (by first | (with_reducible assumption) | assumption)
            have q110 : x4_1 < (l0.length : Int) := of_decide_eq_true (by first | (with_reducible assumption) | assumption)
            obtain ⟨ad110, e110, hx110_0⟩ := Kd.at_bool HR0.out x4_1 p110 q110
            (try rw [← Nbq8.out] at hx110_0)
            cases e110
            replace hx110_0 := (HB.out.cell (World.block_lt_of_cell? w _ hx110_0)).trans hx110_0
            replace p110 := eq_true p110
            replace q110 := eq_true q110
            go_wp2
            go_roundg k1
            case measure => have := HK1.out; omega
            case rel => exact ⟨(wrap64 (x4_1 + 1)), (x110001_1), (x110002_1), (by first | rfl | (simp; done) | (simp [*]; done)), H', ⟨by have := HK1.out; omega⟩, ⟨by (with_reducible repeat (first | refine blk_drewN ?_ _ | refine blk_drew ?_ | refine blk_alloc ?_ _)); exact BK108.out⟩, ⟨by (with_reducible repeat (first | refine blk_drewN ?_ _ | refine blk_drew ?_ | refine blk_alloc ?_ _)); exact BK109.out⟩, ⟨by repeat (first | (with_reducible first | exact HB.out | apply below_alloc | apply pw_below_drewN | apply below_drew1 | refine below_set ?_ GE108.out | refine below_set ?_ GE109.out) | exact HB.out)⟩⟩
        · rw [if_neg c7] at H
          exact absurd H (by simp)
      · rw [if_neg c6] at H
        have c6b0 : decide (x4_1 < (l0.length : Int)) = false := decide_eq_false c6
        clear c6
        simp only [Option.some.injEq, Prod.mk.injEq] at H
        obtain ⟨rfl, rfl, rfl⟩ := H
        have hnb20 := NB109_108.out
        have hnc20 := NB108_109.out
        have hcz21_0 : wr.cell? ⟨gb109, 0, none⟩ = some (.int .i64 (l0.length : Int)) := (blk_cell BK109.out 0).trans rfl
        have hcz21_1 : wr.cell? ⟨gb109, 1, none⟩ = some (.int .u64 x110001_1) := (blk_cell BK109.out 1).trans rfl
        have hcz21_2 : wr.cell? ⟨gb109, 2, none⟩ = some (.int .u64 x110002_1) := (blk_cell BK109.out 2).trans rfl
        have hfz21_0 := blk_frozen BK109.out 0
        have hfz21_1 := blk_frozen BK109.out 1
        have hfz21_2 := blk_frozen BK109.out 2
        have hcz22_0 : wr.cell? ⟨gb108, 0, none⟩ = some (.int .i64 0) := (blk_cell BK108.out 0).trans rfl
        have hcz22_1 : wr.cell? ⟨gb108, 1, none⟩ = some (.int .u64 0) := (blk_cell BK108.out 1).trans rfl
        have hcz22_2 : wr.cell? ⟨gb108, 2, none⟩ = some (.int .u64 0) := (blk_cell BK108.out 2).trans rfl
        have hfz22_0 := blk_frozen BK108.out 0
        have hfz22_1 := blk_frozen BK108.out 1
        have hfz22_2 := blk_frozen BK108.out 2
        go_wp2
        refine bodyPost_ret (results_cell_row rfl _ _ gb108 79 #[.int .i64 (l0.length : Int), .int .u64 x110001_1, .int .u64 x110002_1] (0, 0) _ rfl (by (with_reducible repeat (first | refine blk_drewN ?_ _ | refine blk_drew ?_ | refine blk_alloc ?_ _)); refine blk_put (cs := #[.int .i64 (l0.length : Int), .int .u64 x110001_1, .int .u64 0]) ?_ 2 _ rfl; (with_reducible repeat (first | refine blk_drewN ?_ _ | refine blk_drew ?_ | refine blk_alloc ?_ _)); refine blk_put (cs := #[.int .i64 (l0.length : Int), .int .u64 0, .int .u64 0]) ?_ 1 _ rfl; (with_reducible repeat (first | refine blk_drewN ?_ _ | refine blk_drew ?_ | refine blk_alloc ?_ _)); refine blk_put (cs := #[.int .i64 0, .int .u64 0, .int .u64 0]) ?_ 0 _ rfl; (with_reducible repeat (first | refine blk_drewN ?_ _ | refine blk_drew ?_ | refine blk_alloc ?_ _)); exact BK108.out) Tryz.underlying79 rfl (by kernel_rfl)) rfl ?_
        exact ⟨by first | rfl | (simp [errW_none, errW_some] <;> rfl) | (simp [*, errW_none, errW_some] <;> rfl), by repeat (first | (with_reducible first | exact HB.out | apply below_alloc | apply pw_below_drewN | apply below_drew1 | refine below_set ?_ GE108.out | refine below_set ?_ GE109.out) | exact HB.out)⟩

/-! ### pointsmanref01_Of: function 145 -/
def pointsmanref01_Of.j0 : Nat → Int → Int → Int → Bool → Option (Int × Int × Int × Int)
  | 0, _, _, _, _ => none
  | k + 1, x0, x1, x2, x13 => if x13 = true then (some (0, 0, 0, 1)) else ((pointsmanref01_Bits.f k x0 x1 x2).bind fun t112 => ((pointsmanref01_Number.f k t112).bind fun bt115 => (some (bt115.1, bt115.2.1, bt115.2.2, 0))))
def pointsmanref01_Of.f (k : Nat) (a0 : Int) (a1 : Int) (a2 : Int) : Option (Int × Int × Int × Int) := if a0 < 1 then (pointsmanref01_Of.j0 k a0 a1 a2 true) else (pointsmanref01_Of.j0 k a0 a1 a2 (decide (a0 > 128)))
theorem pointsmanref01_Of.mono_l : ∀ k, (∀ y0 y1 y2 y3, LeO (pointsmanref01_Of.j0 k y0 y1 y2 y3) (pointsmanref01_Of.j0 (k + 1) y0 y1 y2 y3))
  | 0 => fun _ _ _ _ r h => by simp [pointsmanref01_Of.j0] at h
  | k + 1 => by
    have ih0 := pointsmanref01_Of.mono_l k
    · intro y0 y1 y2 y3
      unfold pointsmanref01_Of.j0
      repeat' first
      | (with_reducible exact ih0 _ _ _ _)
      | (with_reducible exact pointsmanref01_Bits.mono _ _ _ _)
      | (with_reducible exact pointsmanref01_Number.mono _ _)
      | (with_reducible exact LeO.refl _)
      | (with_reducible exact LeO.none _)
      | (with_reducible refine LeO.ite ?_ ?_)
      | (with_reducible refine LeO.bind ?_ (fun _ => ?_))
      | exact ih0 _ _ _ _
      | exact pointsmanref01_Bits.mono _ _ _ _
      | exact pointsmanref01_Number.mono _ _
      | exact LeO.none _
      | refine LeO.ite ?_ ?_
      | refine LeO.bind ?_ (fun _ => ?_)
theorem pointsmanref01_Of.mono : ∀ a0 a1 a2 k, LeO (pointsmanref01_Of.f k a0 a1 a2) (pointsmanref01_Of.f (k + 1) a0 a1 a2) := by
  intro a0 a1 a2 k
  have ih0 := pointsmanref01_Of.mono_l k
  unfold pointsmanref01_Of.f
  repeat' first
      | (with_reducible exact ih0 _ _ _ _)
      | (with_reducible exact pointsmanref01_Bits.mono _ _ _ _)
      | (with_reducible exact pointsmanref01_Number.mono _ _)
      | (with_reducible exact LeO.refl _)
      | (with_reducible exact LeO.none _)
      | (with_reducible refine LeO.ite ?_ ?_)
      | (with_reducible refine LeO.bind ?_ (fun _ => ?_))
      | exact ih0 _ _ _ _
      | exact pointsmanref01_Bits.mono _ _ _ _
      | exact pointsmanref01_Number.mono _ _
      | exact LeO.none _
      | refine LeO.ite ?_ ?_
      | refine LeO.bind ?_ (fun _ => ?_)
set_option maxHeartbeats 8000000 in
set_option maxRecDepth 100000 in
theorem pointsmanref01_Of.calls (k : Nat) (a0 : Int) (a1 : Int) (a2 : Int) (r1 : Int) (r2 : Int) (r3 : Int) (r4 : Int) (w : World) (h : pointsmanref01_Of.f k a0 a1 a2 = some (r1, r2, r3, r4)) :
    Calls Tryz.prog 145 #[.int .i64 a0, .int .u64 a1, .int .u64 a2] w fun e w' => e = .returned (.tuple #[.agg #[.int .i64 r1, .int .u64 r2, .int .u64 r3], .int .i64 r4]) ∧ Below w.heap.size w w' := by
  have hu79 := Tryz.underlying79
  have HB := Aside0.mk (Below.refl w.heap.size w)
  have H : (if a0 < 1 then (pointsmanref01_Of.j0 k a0 a1 a2 true) else (pointsmanref01_Of.j0 k a0 a1 a2 (decide (a0 > 128)))) = some (r1, r2, r3, r4) := h
  clear h
  have HC4 := Aside0.mk H
  clear H
  go_enter Tryz.func145, Tryz.ntmps145
  go_upto_region 1 with (first | ((with_reducible refine gate_dst (N := 6) rfl ?_); refine box_event ?hg (N := 6) ?hd (cs := #[.int .i64 0, .int .u64 0, .int .u64 0]) (t := 79) ?hr ?_; (case hd => rfl); (case hg => rfl); (case hr => first | (go_simp; done) | (go_simp; rfl)); intro gb111 hg w5 hbox hb; have n0_ := Aside0.mk (below_step (by repeat (first | (with_reducible first | exact HB.out | apply below_alloc | apply pw_below_drewN | apply below_drew1) | exact HB.out)) hb); have n1_ := Aside0.mk (hbox); have n2_ := Aside0.mk ((by rw [hg]; exact (below_size (by repeat (first | (with_reducible first | exact HB.out | apply below_alloc | apply pw_below_drewN | apply below_drew1) | exact HB.out))) : w.heap.size ≤ gb111)); have n3_ := Aside0.mk ((by rw [hg]; exact (below_size (by repeat (first | (with_reducible first | exact HB.out | apply below_alloc | apply pw_below_drewN | apply below_drew1) | exact HB.out))) : w.heap.size ≤ gb111)); clear HB; have HB := n0_; have BK111 := n1_; have GW111 := n2_; have GE111 := n3_; clear n0_ n1_ n2_ n3_; clear hb hbox hg))
  (try simp only [Act.put, List.setIfInBounds_toArray, List.set_cons_zero, List.set_cons_succ])
  go_cut [13] (fun v13 wc => ∃ (kq : Nat) (x13_3 : Bool), v13 = .bool x13_3 ∧ Aside0 (pointsmanref01_Of.j0 kq a0 a1 a2 x13_3 = some (r1, r2, r3, r4)) ∧ Aside0 (kq ≤ k) ∧ Aside0 (wc.heap[gb111]? = some (.cells #[.int .i64 0, .int .u64 0, .int .u64 0] 79 (0, 0))) ∧ Aside0 (Below w.heap.size w wc))
  case first =>
    have H := HC4.out
    clear HC4
    by_cases c6 : a0 < 1
    · rw [if_pos c6] at H
      have c6b0 : decide (a0 < 1) = true := decide_eq_true c6
      clear c6
      (first | rw [c6b0] | (simp only [i64_w, i32_w]; rw [c6b0]) | skip)
      have H' := Aside0.mk H
      clear H
      go_wp2
      go_meet
      case rel => exact ⟨_, (true), (by first | rfl | (simp; done) | (simp [*]; done)), H', ⟨by first | omega | exact Nat.le_refl _⟩, ⟨by (with_reducible repeat (first | refine blk_drewN ?_ _ | refine blk_drew ?_ | refine blk_alloc ?_ _)); exact BK111.out⟩, ⟨by repeat (first | (with_reducible first | exact HB.out | apply below_alloc | apply pw_below_drewN | apply below_drew1 | refine below_set ?_ GE111.out) | exact HB.out)⟩⟩
    · rw [if_neg c6] at H
      have c6b0 : decide (a0 < 1) = false := decide_eq_false c6
      clear c6
      (first | rw [c6b0] | (simp only [i64_w, i32_w]; rw [c6b0]) | skip)
      have H' := Aside0.mk H
      clear H
      go_wp2
      go_meet
      case rel => exact ⟨_, (decide (a0 > 128)), (by first | rfl | (simp; done) | (simp [*]; done)), H', ⟨by first | omega | exact Nat.le_refl _⟩, ⟨by (with_reducible repeat (first | refine blk_drewN ?_ _ | refine blk_drew ?_ | refine blk_alloc ?_ _)); exact BK111.out⟩, ⟨by repeat (first | (with_reducible first | exact HB.out | apply below_alloc | apply pw_below_drewN | apply below_drew1 | refine below_set ?_ GE111.out) | exact HB.out)⟩⟩
  case rest =>
    clear HC4
    try clear c1
    try clear p2
    try clear c6
    try clear c6b0
    obtain ⟨kq, x13_3, rfl, HA, HJ3, BK111, HB⟩ := hcut
    cases kq with
    | zero => exact absurd HA.out (by simp [pointsmanref01_Of.j0])
    | succ kj3 =>
      have H := HA.out
      clear HA
      simp only [pointsmanref01_Of.j0] at H
      by_cases c7 : x13_3 = true
      · subst c7
        have H1 : (some (0, 0, 0, 1)) = some (r1, r2, r3, r4) := by rw [if_pos rfl] at H; exact H
        clear H
        have H := H1
        clear H1
        simp only [Option.some.injEq, Prod.mk.injEq] at H
        obtain ⟨rfl, rfl, rfl, rfl⟩ := H
        have hcz8_0 : wc.cell? ⟨gb111, 0, none⟩ = some (.int .i64 0) := (blk_cell BK111.out 0).trans rfl
        have hcz8_1 : wc.cell? ⟨gb111, 1, none⟩ = some (.int .u64 0) := (blk_cell BK111.out 1).trans rfl
        have hcz8_2 : wc.cell? ⟨gb111, 2, none⟩ = some (.int .u64 0) := (blk_cell BK111.out 2).trans rfl
        have hfz8_0 := blk_frozen BK111.out 0
        have hfz8_1 := blk_frozen BK111.out 1
        have hfz8_2 := blk_frozen BK111.out 2
        go_wp2
        refine bodyPost_ret (results_ct rfl _ _ gb111 79 #[.int .i64 0, .int .u64 0, .int .u64 0] (0, 0) _ rfl (by (with_reducible repeat (first | refine blk_drewN ?_ _ | refine blk_drew ?_ | refine blk_alloc ?_ _)); refine blk_put (cs := #[.int .i64 0, .int .u64 0, .int .u64 0]) ?_ 2 _ rfl; (with_reducible repeat (first | refine blk_drewN ?_ _ | refine blk_drew ?_ | refine blk_alloc ?_ _)); refine blk_put (cs := #[.int .i64 0, .int .u64 0, .int .u64 0]) ?_ 1 _ rfl; (with_reducible repeat (first | refine blk_drewN ?_ _ | refine blk_drew ?_ | refine blk_alloc ?_ _)); refine blk_put (cs := #[.int .i64 0, .int .u64 0, .int .u64 0]) ?_ 0 _ rfl; (with_reducible repeat (first | refine blk_drewN ?_ _ | refine blk_drew ?_ | refine blk_alloc ?_ _)); exact BK111.out) Tryz.underlying79 rfl (by kernel_rfl)) rfl ?_
        exact ⟨by first | rfl | (simp [errW_none, errW_some] <;> rfl) | (simp [*, errW_none, errW_some] <;> rfl), by repeat (first | (with_reducible first | exact HB.out | apply below_alloc | apply pw_below_drewN | apply below_drew1 | refine below_set ?_ GE111.out) | exact HB.out)⟩
      · replace c7 := Bool.eq_false_iff.mpr c7
        subst c7
        have H1 : ((pointsmanref01_Bits.f kj3 a0 a1 a2).bind fun t112 => ((pointsmanref01_Number.f kj3 t112).bind fun bt115 => (some (bt115.1, bt115.2.1, bt115.2.2, 0)))) = some (r1, r2, r3, r4) := by rw [if_neg (show ¬ (false = true) by decide)] at H; exact H
        clear H
        have H := H1
        clear H1
        replace H := Option.bind_eq_some_iff.mp H
        obtain ⟨t112, A90, H⟩ := H
        replace H : ((pointsmanref01_Number.f kj3 t112).bind fun bt115 => (some (bt115.1, bt115.2.1, bt115.2.2, 0))) = some (r1, r2, r3, r4) := H
        have A9 := Aside0.mk A90
        clear A90
        replace H := Option.bind_eq_some_iff.mp H
        obtain ⟨⟨t115, t116, t117⟩, A100, H⟩ := H
        replace H : (some (t115, t116, t117, 0)) = some (r1, r2, r3, r4) := H
        have A10 := Aside0.mk A100
        clear A100
        simp only [Option.some.injEq, Prod.mk.injEq] at H
        obtain ⟨rfl, rfl, rfl, rfl⟩ := H
        go_wp2_with (first | ((with_reducible refine gate_callee (f := 43) rfl ?_); refine goesL_ (some 19) rfl rfl Tryz.func43 (by kernel_rfl) rfl #[.agg #[.int .i64 a0, .int .u64 a1, .int .u64 a2]] rfl (by (try simp only [List.map_toArray, List.map_cons, List.map_nil]); first | done | rfl | (simp only [List.length_drop, List.length_take]; rfl)) ?_; (with_reducible refine (pointsmanref01_Bits.calls kj3 a0 a1 a2 t112 _ A9.out).mono ?_); rintro e w11 ⟨v113, rfl, ho0, hb⟩; refine ⟨_, rfl, ?_⟩; have n0_ := Aside0.mk (Kd.R_lower ho0 (below_size (by repeat (first | (with_reducible first | exact HB.out | apply below_alloc | apply pw_below_drewN | apply below_drew1 | refine below_set ?_ GE111.out) | exact HB.out)))); have n1_ := Aside0.mk (blk_below (g := gb111) (o := .cells #[.int .i64 0, .int .u64 0, .int .u64 0] 79 (0, 0)) (by (with_reducible repeat (first | refine blk_drewN ?_ _ | refine blk_drew ?_ | refine blk_alloc ?_ _)); exact BK111.out) hb); have n2_ := Aside0.mk (below_step (by repeat (first | (with_reducible first | exact HB.out | apply below_alloc | apply pw_below_drewN | apply below_drew1 | refine below_set ?_ GE111.out) | exact HB.out)) hb); clear BK111; clear HB; have HO114 := n0_; have BK111 := n1_; have HB := n2_; clear n0_ n1_ n2_; (try clear hb); (try clear hb2); (try clear hk); (try clear hi); (try clear ho0); obtain ⟨Ao12, co12, eo12⟩ := Kd.R_slice HO114.out; subst eo12) | ((with_reducible refine gate_callee (f := 139) rfl ?_); refine goesL_ (some 20) rfl rfl Tryz.func139 (by kernel_rfl) rfl #[.slice Ao12 t112.length co12] rfl (by (try simp only [List.map_toArray, List.map_cons, List.map_nil]); first | done | rfl | (simp only [List.length_drop, List.length_take]; rfl)) ?_; (with_reducible refine (pointsmanref01_Number.calls kj3 _ _ t112 t115 t116 t117 _ ?side1 ?side2 A10.out).mono ?_); (case side1 => repeat (first | exact (Kd.R_reads' HO114.out).2.2 | (with_reducible refine Kd.C_alloc ?_ _) | (with_reducible refine Kd.C_drewN ?_ _) | (with_reducible refine Kd.C_drew ?_))); (case side2 => exact (Kd.R_reads' HO114.out).2.1); rintro e w13 ⟨rfl, hb⟩; refine ⟨_, rfl, ?_⟩; have n0_ := Aside0.mk (Kd.R_below (by (with_reducible repeat (first | apply Kd.R_alloc | apply Kd.R_drewN | apply Kd.R_drew)); exact HO114.out) hb); have n1_ := Aside0.mk (blk_below (g := gb111) (o := .cells #[.int .i64 0, .int .u64 0, .int .u64 0] 79 (0, 0)) (by (with_reducible repeat (first | refine blk_drewN ?_ _ | refine blk_drew ?_ | refine blk_alloc ?_ _)); exact BK111.out) hb); have n2_ := Aside0.mk (below_step (by repeat (first | (with_reducible first | exact HB.out | apply below_alloc | apply pw_below_drewN | apply below_drew1 | refine below_set ?_ GE111.out) | exact HB.out)) hb); clear HO114; clear BK111; clear HB; have HO114 := n0_; have BK111 := n1_; have HB := n2_; clear n0_ n1_ n2_; (try clear hb); (try clear hb2); (try clear hk); (try clear hi); have hcz14_0 : w13.cell? ⟨gb111, 0, none⟩ = some (.int .i64 0) := (blk_cell BK111.out 0).trans rfl; have hcz14_1 : w13.cell? ⟨gb111, 1, none⟩ = some (.int .u64 0) := (blk_cell BK111.out 1).trans rfl; have hcz14_2 : w13.cell? ⟨gb111, 2, none⟩ = some (.int .u64 0) := (blk_cell BK111.out 2).trans rfl; have hfz14_0 := blk_frozen BK111.out 0; have hfz14_1 := blk_frozen BK111.out 1; have hfz14_2 := blk_frozen BK111.out 2))
        refine bodyPost_ret (results_ct rfl _ _ gb111 79 #[.int .i64 t115, .int .u64 t116, .int .u64 t117] (0, 0) _ rfl (by (with_reducible repeat (first | refine blk_drewN ?_ _ | refine blk_drew ?_ | refine blk_alloc ?_ _)); refine blk_put (cs := #[.int .i64 t115, .int .u64 t116, .int .u64 0]) ?_ 2 _ rfl; (with_reducible repeat (first | refine blk_drewN ?_ _ | refine blk_drew ?_ | refine blk_alloc ?_ _)); refine blk_put (cs := #[.int .i64 t115, .int .u64 0, .int .u64 0]) ?_ 1 _ rfl; (with_reducible repeat (first | refine blk_drewN ?_ _ | refine blk_drew ?_ | refine blk_alloc ?_ _)); refine blk_put (cs := #[.int .i64 0, .int .u64 0, .int .u64 0]) ?_ 0 _ rfl; (with_reducible repeat (first | refine blk_drewN ?_ _ | refine blk_drew ?_ | refine blk_alloc ?_ _)); exact BK111.out) Tryz.underlying79 rfl (by kernel_rfl)) rfl ?_
        exact ⟨by first | rfl | (simp [errW_none, errW_some] <;> rfl) | (simp [*, errW_none, errW_some] <;> rfl), by repeat (first | (with_reducible first | exact HB.out | apply below_alloc | apply pw_below_drewN | apply below_drew1 | refine below_set ?_ GE111.out) | exact HB.out)⟩

/-! ### pointsmanref01_Check: function 42 -/
def pointsmanref01_Check.f (k : Nat) (a0_0 : Int) (a0_1 : Int) (a0_2 : Int) : Option (Bool) := (pointsmanref01_Of.f k a0_0 a0_1 a0_2).bind fun bt119 => (if bt119.2.2.2 = 0 then (some (bt119.1 == a0_0 && (bt119.2.1 == a0_1 && (bt119.2.2.1 == a0_2)))) else (some false))
theorem pointsmanref01_Check.mono : ∀ a0 a1 a2 k, LeO (pointsmanref01_Check.f k a0 a1 a2) (pointsmanref01_Check.f (k + 1) a0 a1 a2) := by
  intro a0 a1 a2 k
  unfold pointsmanref01_Check.f
  repeat' first
      | (with_reducible exact pointsmanref01_Of.mono _ _ _ _)
      | (with_reducible exact LeO.refl _)
      | (with_reducible exact LeO.none _)
      | (with_reducible refine LeO.ite ?_ ?_)
      | (with_reducible refine LeO.bind ?_ (fun _ => ?_))
      | exact pointsmanref01_Of.mono _ _ _ _
      | exact LeO.none _
      | refine LeO.ite ?_ ?_
      | refine LeO.bind ?_ (fun _ => ?_)
set_option maxHeartbeats 8000000 in
set_option maxRecDepth 100000 in
theorem pointsmanref01_Check.calls (k : Nat) (a0_0 : Int) (a0_1 : Int) (a0_2 : Int) (r : Bool) (w : World) (h : pointsmanref01_Check.f k a0_0 a0_1 a0_2 = some r) :
    Calls Tryz.prog 42 #[.agg #[.int .i64 a0_0, .int .u64 a0_1, .int .u64 a0_2]] w fun e w' => e = .returned (.bool r) ∧ Below w.heap.size w w' := by
  have hu79 := Tryz.underlying79
  have HB := Aside0.mk (Below.refl w.heap.size w)
  have H : ((pointsmanref01_Of.f k a0_0 a0_1 a0_2).bind fun bt119 => (if bt119.2.2.2 = 0 then (some (bt119.1 == a0_0 && (bt119.2.1 == a0_1 && (bt119.2.2.1 == a0_2)))) else (some false))) = some r := h
  clear h
  replace H := Option.bind_eq_some_iff.mp H
  obtain ⟨⟨t119, t120, t121, t122⟩, A20, H⟩ := H
  replace H : (if t122 = 0 then (some (t119 == a0_0 && (t120 == a0_1 && (t121 == a0_2)))) else (some false)) = some r := H
  have A2 := Aside0.mk A20
  clear A20
  by_cases c3 : t122 = 0
  · rw [if_pos c3] at H
    have c3b0 : (t122 == 0) = true := beq_iff_eq.mpr c3
    have c3b1 : (t122 != 0) = false := bne_eq_false_iff_eq.mpr c3
    clear c3
    obtain rfl := Option.some.inj H
    go_enter Tryz.func42, Tryz.ntmps42
    go_wp2_with (first | ((with_reducible refine gate_dst (N := 1) rfl ?_); refine box_event ?hg (N := 1) ?hd (cs := #[.int .i64 a0_0, .int .u64 a0_1, .int .u64 a0_2]) (t := 79) ?hr ?_; (case hd => rfl); (case hg => rfl); (case hr => first | (go_simp; done) | (go_simp; rfl)); intro gb118 hg w4 hbox hb; have n0_ := Aside0.mk (below_step (by repeat (first | (with_reducible first | exact HB.out | apply below_alloc | apply pw_below_drewN | apply below_drew1) | exact HB.out)) hb); have n1_ := Aside0.mk (hbox); have n2_ := Aside0.mk ((by rw [hg]; exact (below_size (by repeat (first | (with_reducible first | exact HB.out | apply below_alloc | apply pw_below_drewN | apply below_drew1) | exact HB.out))) : w.heap.size ≤ gb118)); have n3_ := Aside0.mk ((by rw [hg]; exact (below_size (by repeat (first | (with_reducible first | exact HB.out | apply below_alloc | apply pw_below_drewN | apply below_drew1) | exact HB.out))) : w.heap.size ≤ gb118)); clear HB; have HB := n0_; have BK118 := n1_; have GW118 := n2_; have GE118 := n3_; clear n0_ n1_ n2_ n3_; clear hb hbox hg; have hcz5_0 : w4.cell? ⟨gb118, 0, none⟩ = some (.int .i64 a0_0) := (blk_cell BK118.out 0).trans rfl; have hcz5_1 : w4.cell? ⟨gb118, 1, none⟩ = some (.int .u64 a0_1) := (blk_cell BK118.out 1).trans rfl; have hcz5_2 : w4.cell? ⟨gb118, 2, none⟩ = some (.int .u64 a0_2) := (blk_cell BK118.out 2).trans rfl; have hfz5_0 := blk_frozen BK118.out 0; have hfz5_1 := blk_frozen BK118.out 1; have hfz5_2 := blk_frozen BK118.out 2) | ((with_reducible refine gate_callee (f := 145) rfl ?_); refine goesL_ (some 12) rfl rfl Tryz.func145 (by kernel_rfl) rfl #[.int .i64 a0_0, .int .u64 a0_1, .int .u64 a0_2] rfl (by (try simp only [List.map_toArray, List.map_cons, List.map_nil]); first | done | rfl | (simp only [List.length_drop, List.length_take]; rfl)) ?_; (with_reducible refine (pointsmanref01_Of.calls k a0_0 a0_1 a0_2 t119 t120 t121 t122 _ A2.out).mono ?_); rintro e w6 ⟨rfl, hb⟩; refine ⟨_, rfl, ?_⟩; have n0_ := Aside0.mk (blk_below (g := gb118) (o := .cells #[.int .i64 a0_0, .int .u64 a0_1, .int .u64 a0_2] 79 (0, 0)) (by (with_reducible repeat (first | refine blk_drewN ?_ _ | refine blk_drew ?_ | refine blk_alloc ?_ _)); exact BK118.out) hb); have n1_ := Aside0.mk (below_step (by repeat (first | (with_reducible first | exact HB.out | apply below_alloc | apply pw_below_drewN | apply below_drew1 | refine below_set ?_ GE118.out) | exact HB.out)) hb); clear BK118; clear HB; have BK118 := n0_; have HB := n1_; clear n0_ n1_; (try clear hb); (try clear hb2); (try clear hk); (try clear hi)) | ((with_reducible refine gate_dst (N := 3) rfl ?_); refine box_event ?hg (N := 3) ?hd (cs := #[.int .i64 0, .int .u64 0, .int .u64 0]) (t := 79) ?hr ?_; (case hd => rfl); (case hg => rfl); (case hr => first | (go_simp; done) | (go_simp; rfl)); intro gb123 hg w7 hbox hb; have n0_ := Aside0.mk (blk_below (g := gb118) (o := .cells #[.int .i64 a0_0, .int .u64 a0_1, .int .u64 a0_2] 79 (0, 0)) (by (with_reducible repeat (first | refine blk_drewN ?_ _ | refine blk_drew ?_ | refine blk_alloc ?_ _)); exact BK118.out) hb); have n1_ := Aside0.mk (below_step (by repeat (first | (with_reducible first | exact HB.out | apply below_alloc | apply pw_below_drewN | apply below_drew1 | refine below_set ?_ GE118.out) | exact HB.out)) hb); have n2_ := Aside0.mk (hbox); have n3_ := Aside0.mk ((by rw [hg]; exact (below_size (by repeat (first | (with_reducible first | exact HB.out | apply below_alloc | apply pw_below_drewN | apply below_drew1 | refine below_set ?_ GE118.out) | exact HB.out))) : w.heap.size ≤ gb123)); have n4_ := Aside0.mk ((by rw [hg]; exact (below_size (by repeat (first | (with_reducible first | exact HB.out | apply below_alloc | apply pw_below_drewN | apply below_drew1 | refine below_set ?_ GE118.out) | exact HB.out))) : w.heap.size ≤ gb123)); have n5_ := Aside0.mk ((by rw [hg]; exact Nat.ne_of_lt (blk_lt (g := gb118) (o := .cells #[.int .i64 a0_0, .int .u64 a0_1, .int .u64 a0_2] 79 (0, 0)) (by (with_reducible repeat (first | refine blk_drewN ?_ _ | refine blk_drew ?_ | refine blk_alloc ?_ _)); exact BK118.out)) : gb118 ≠ gb123)); have n6_ := Aside0.mk ((by rw [hg]; exact Nat.ne_of_gt (blk_lt (g := gb118) (o := .cells #[.int .i64 a0_0, .int .u64 a0_1, .int .u64 a0_2] 79 (0, 0)) (by (with_reducible repeat (first | refine blk_drewN ?_ _ | refine blk_drew ?_ | refine blk_alloc ?_ _)); exact BK118.out)) : gb123 ≠ gb118)); clear BK118; clear HB; have BK118 := n0_; have HB := n1_; have BK123 := n2_; have GW123 := n3_; have GE123 := n4_; have NB118_123 := n5_; have NB123_118 := n6_; clear n0_ n1_ n2_ n3_ n4_ n5_ n6_; clear hb hbox hg; have hnb8 := NB123_118.out; have hnc8 := NB118_123.out; have hcz9_0 : w7.cell? ⟨gb123, 0, none⟩ = some (.int .i64 0) := (blk_cell BK123.out 0).trans rfl; have hcz9_1 : w7.cell? ⟨gb123, 1, none⟩ = some (.int .u64 0) := (blk_cell BK123.out 1).trans rfl; have hcz9_2 : w7.cell? ⟨gb123, 2, none⟩ = some (.int .u64 0) := (blk_cell BK123.out 2).trans rfl; have hfz9_0 := blk_frozen BK123.out 0; have hfz9_1 := blk_frozen BK123.out 1; have hfz9_2 := blk_frozen BK123.out 2; have hcz10_0 : w7.cell? ⟨gb118, 0, none⟩ = some (.int .i64 a0_0) := (blk_cell BK118.out 0).trans rfl; have hcz10_1 : w7.cell? ⟨gb118, 1, none⟩ = some (.int .u64 a0_1) := (blk_cell BK118.out 1).trans rfl; have hcz10_2 : w7.cell? ⟨gb118, 2, none⟩ = some (.int .u64 a0_2) := (blk_cell BK118.out 2).trans rfl; have hfz10_0 := blk_frozen BK118.out 0; have hfz10_1 := blk_frozen BK118.out 1; have hfz10_2 := blk_frozen BK118.out 2))
    go_ret
    exact ⟨by first | rfl | (simp [errW_none, errW_some] <;> rfl) | (simp [*, errW_none, errW_some] <;> rfl), by repeat (first | (with_reducible first | exact HB.out | apply below_alloc | apply pw_below_drewN | apply below_drew1 | refine below_set ?_ GE118.out | refine below_set ?_ GE123.out) | exact HB.out)⟩
  · rw [if_neg c3] at H
    have c3b0 : (t122 == 0) = false := beq_eq_false_iff_ne.mpr c3
    have c3b1 : (t122 != 0) = true := bne_iff_ne.mpr c3
    obtain rfl := Option.some.inj H
    go_enter Tryz.func42, Tryz.ntmps42
    go_wp2_with (first | ((with_reducible refine gate_dst (N := 1) rfl ?_); refine box_event ?hg (N := 1) ?hd (cs := #[.int .i64 a0_0, .int .u64 a0_1, .int .u64 a0_2]) (t := 79) ?hr ?_; (case hd => rfl); (case hg => rfl); (case hr => first | (go_simp; done) | (go_simp; rfl)); intro gb118 hg w11 hbox hb; have n0_ := Aside0.mk (below_step (by repeat (first | (with_reducible first | exact HB.out | apply below_alloc | apply pw_below_drewN | apply below_drew1) | exact HB.out)) hb); have n1_ := Aside0.mk (hbox); have n2_ := Aside0.mk ((by rw [hg]; exact (below_size (by repeat (first | (with_reducible first | exact HB.out | apply below_alloc | apply pw_below_drewN | apply below_drew1) | exact HB.out))) : w.heap.size ≤ gb118)); have n3_ := Aside0.mk ((by rw [hg]; exact (below_size (by repeat (first | (with_reducible first | exact HB.out | apply below_alloc | apply pw_below_drewN | apply below_drew1) | exact HB.out))) : w.heap.size ≤ gb118)); clear HB; have HB := n0_; have BK118 := n1_; have GW118 := n2_; have GE118 := n3_; clear n0_ n1_ n2_ n3_; clear hb hbox hg; have hcz12_0 : w11.cell? ⟨gb118, 0, none⟩ = some (.int .i64 a0_0) := (blk_cell BK118.out 0).trans rfl; have hcz12_1 : w11.cell? ⟨gb118, 1, none⟩ = some (.int .u64 a0_1) := (blk_cell BK118.out 1).trans rfl; have hcz12_2 : w11.cell? ⟨gb118, 2, none⟩ = some (.int .u64 a0_2) := (blk_cell BK118.out 2).trans rfl; have hfz12_0 := blk_frozen BK118.out 0; have hfz12_1 := blk_frozen BK118.out 1; have hfz12_2 := blk_frozen BK118.out 2) | ((with_reducible refine gate_callee (f := 145) rfl ?_); refine goesL_ (some 12) rfl rfl Tryz.func145 (by kernel_rfl) rfl #[.int .i64 a0_0, .int .u64 a0_1, .int .u64 a0_2] rfl (by (try simp only [List.map_toArray, List.map_cons, List.map_nil]); first | done | rfl | (simp only [List.length_drop, List.length_take]; rfl)) ?_; (with_reducible refine (pointsmanref01_Of.calls k a0_0 a0_1 a0_2 t119 t120 t121 t122 _ A2.out).mono ?_); rintro e w13 ⟨rfl, hb⟩; refine ⟨_, rfl, ?_⟩; have n0_ := Aside0.mk (blk_below (g := gb118) (o := .cells #[.int .i64 a0_0, .int .u64 a0_1, .int .u64 a0_2] 79 (0, 0)) (by (with_reducible repeat (first | refine blk_drewN ?_ _ | refine blk_drew ?_ | refine blk_alloc ?_ _)); exact BK118.out) hb); have n1_ := Aside0.mk (below_step (by repeat (first | (with_reducible first | exact HB.out | apply below_alloc | apply pw_below_drewN | apply below_drew1 | refine below_set ?_ GE118.out) | exact HB.out)) hb); clear BK118; clear HB; have BK118 := n0_; have HB := n1_; clear n0_ n1_; (try clear hb); (try clear hb2); (try clear hk); (try clear hi)) | ((with_reducible refine gate_dst (N := 3) rfl ?_); refine box_event ?hg (N := 3) ?hd (cs := #[.int .i64 0, .int .u64 0, .int .u64 0]) (t := 79) ?hr ?_; (case hd => rfl); (case hg => rfl); (case hr => first | (go_simp; done) | (go_simp; rfl)); intro gb123 hg w14 hbox hb; have n0_ := Aside0.mk (blk_below (g := gb118) (o := .cells #[.int .i64 a0_0, .int .u64 a0_1, .int .u64 a0_2] 79 (0, 0)) (by (with_reducible repeat (first | refine blk_drewN ?_ _ | refine blk_drew ?_ | refine blk_alloc ?_ _)); exact BK118.out) hb); have n1_ := Aside0.mk (below_step (by repeat (first | (with_reducible first | exact HB.out | apply below_alloc | apply pw_below_drewN | apply below_drew1 | refine below_set ?_ GE118.out) | exact HB.out)) hb); have n2_ := Aside0.mk (hbox); have n3_ := Aside0.mk ((by rw [hg]; exact (below_size (by repeat (first | (with_reducible first | exact HB.out | apply below_alloc | apply pw_below_drewN | apply below_drew1 | refine below_set ?_ GE118.out) | exact HB.out))) : w.heap.size ≤ gb123)); have n4_ := Aside0.mk ((by rw [hg]; exact (below_size (by repeat (first | (with_reducible first | exact HB.out | apply below_alloc | apply pw_below_drewN | apply below_drew1 | refine below_set ?_ GE118.out) | exact HB.out))) : w.heap.size ≤ gb123)); have n5_ := Aside0.mk ((by rw [hg]; exact Nat.ne_of_lt (blk_lt (g := gb118) (o := .cells #[.int .i64 a0_0, .int .u64 a0_1, .int .u64 a0_2] 79 (0, 0)) (by (with_reducible repeat (first | refine blk_drewN ?_ _ | refine blk_drew ?_ | refine blk_alloc ?_ _)); exact BK118.out)) : gb118 ≠ gb123)); have n6_ := Aside0.mk ((by rw [hg]; exact Nat.ne_of_gt (blk_lt (g := gb118) (o := .cells #[.int .i64 a0_0, .int .u64 a0_1, .int .u64 a0_2] 79 (0, 0)) (by (with_reducible repeat (first | refine blk_drewN ?_ _ | refine blk_drew ?_ | refine blk_alloc ?_ _)); exact BK118.out)) : gb123 ≠ gb118)); clear BK118; clear HB; have BK118 := n0_; have HB := n1_; have BK123 := n2_; have GW123 := n3_; have GE123 := n4_; have NB118_123 := n5_; have NB123_118 := n6_; clear n0_ n1_ n2_ n3_ n4_ n5_ n6_; clear hb hbox hg; have hnb15 := NB123_118.out; have hnc15 := NB118_123.out; have hcz16_0 : w14.cell? ⟨gb123, 0, none⟩ = some (.int .i64 0) := (blk_cell BK123.out 0).trans rfl; have hcz16_1 : w14.cell? ⟨gb123, 1, none⟩ = some (.int .u64 0) := (blk_cell BK123.out 1).trans rfl; have hcz16_2 : w14.cell? ⟨gb123, 2, none⟩ = some (.int .u64 0) := (blk_cell BK123.out 2).trans rfl; have hfz16_0 := blk_frozen BK123.out 0; have hfz16_1 := blk_frozen BK123.out 1; have hfz16_2 := blk_frozen BK123.out 2))
    go_ret
    exact ⟨by first | rfl | (simp [errW_none, errW_some] <;> rfl) | (simp [*, errW_none, errW_some] <;> rfl), by repeat (first | (with_reducible first | exact HB.out | apply below_alloc | apply pw_below_drewN | apply below_drew1 | refine below_set ?_ GE118.out | refine below_set ?_ GE123.out) | exact HB.out)⟩

end Go.Proofs.YtmoakgkoahjijaaGreatDoor.PPut

-- PRINTED BY print.sh 35421559b90ae4d0a3588c463048766b98c2df88dd9212a6774a882060cdf62d: not written by this session
namespace Go.Proofs.YtmoakgkoahjijaaGreatDoor.PPut
open Go.RowKit Go.Proofs.YtmoakgkoahjijaaGreatDoorW.PrintWords Go.Proofs.YtmoakgkoahjijaaGreatDoorW.PrintLast Go.Proofs.YtmoakgkoahjijaaGreatDoorW.PrintMore
attribute [local go_sem] max2_int min2_int max_two min_two max_three min_three max_four min_four   -- for this text's walks alone
set_option linter.unusedVariables false
set_option linter.unusedSimpArgs false

/-! ### pointsmanref02_Put: function 8 -/
mutual
def pointsmanref02_Put.l0 : Nat → List (S79) → Int → Int → Option (List Int × Int)
  | 0, _, _, _ => none
  | k + 1, x0, x4, x5 => if x5 < (x0.length : Int) then (if 0 ≤ x5 then ((pointsmanref01_Check.f k ((rd_T79 x0 x5).f0) ((rd_T79 x0 x5).f1) ((rd_T79 x0 x5).f2)).bind fun t125 => (if t125 = true then (pointsmanref02_Put.l0 k x0 (wrap64 (x4 + ((rd_T79 x0 x5).f0))) (wrap64 (x5 + 1))) else (some (([] : List Int), 1)))) else (none)) else (if x4 > 524288 then (some (([] : List Int), 3)) else (if 0 ≤ (wrap64 (Int.tdiv (wrap64 (x4 + 7)) 8)) then (if (wrap64 (Int.tdiv (wrap64 (x4 + 7)) 8) : Int).toNat ≤ 281474976710656 then (pointsmanref02_Put.l1 k x0 (List.replicate (wrap64 (Int.tdiv (wrap64 (x4 + 7)) 8) : Int).toNat 0) 0 0) else (none)) else (none)))
def pointsmanref02_Put.l1 : Nat → List (S79) → List Int → Int → Int → Option (List Int × Int)
  | 0, _, _, _, _ => none
  | k + 1, x0, x6, x7, x8 => if x8 < (x0.length : Int) then (if 0 ≤ x8 then ((pointsmanref01_Bits.f k ((rd_T79 x0 x8).f0) ((rd_T79 x0 x8).f1) ((rd_T79 x0 x8).f2)).bind fun t131 => (pointsmanref02_Put.l2 k x0 x6 x7 x8 t131 (wrap64 ((t131.length : Int) - 1)))) else (none)) else (some (x6, 0))
def pointsmanref02_Put.l2 : Nat → List (S79) → List Int → Int → Int → List Bool → Int → Option (List Int × Int)
  | 0, _, _, _, _, _, _ => none
  | k + 1, x0, x6, x7, x8, x9, x10 => if x10 ≥ 0 then (if 0 ≤ x10 then (if x10 < (x9.length : Int) then (if rdOf false x9 x10 = true then (if 0 ≤ (wrap64 (Int.tdiv x7 8)) then (if (wrap64 (Int.tdiv x7 8)) < (x6.length : Int) then (if 0 ≤ (wrap64 (7 - (Int.tmod x7 8))) then (pointsmanref02_Put.l2 k x0 (x6.set ((wrap64 (Int.tdiv x7 8)) : Int).toNat (Go.bits .or .u8 (rd x6 (wrap64 (Int.tdiv x7 8))) (shl .u8 1 (wrap64 (7 - (Int.tmod x7 8)))))) (wrap64 (x7 + 1)) x8 x9 (wrap64 (x10 - 1))) else (none)) else (none)) else (none)) else (pointsmanref02_Put.l2 k x0 x6 (wrap64 (x7 + 1)) x8 x9 (wrap64 (x10 - 1)))) else (none)) else (none)) else (pointsmanref02_Put.l1 k x0 x6 x7 (wrap64 (x8 + 1)))
end
def pointsmanref02_Put.f (k : Nat) (l0 : List (S79)) : Option (List Int × Int) := pointsmanref02_Put.l0 k l0 0 0
theorem pointsmanref02_Put.mono_l : ∀ k, (∀ y0 y1 y2, LeO (pointsmanref02_Put.l0 k y0 y1 y2) (pointsmanref02_Put.l0 (k + 1) y0 y1 y2)) ∧ (∀ y0 y1 y2 y3, LeO (pointsmanref02_Put.l1 k y0 y1 y2 y3) (pointsmanref02_Put.l1 (k + 1) y0 y1 y2 y3)) ∧ (∀ y0 y1 y2 y3 y4 y5, LeO (pointsmanref02_Put.l2 k y0 y1 y2 y3 y4 y5) (pointsmanref02_Put.l2 (k + 1) y0 y1 y2 y3 y4 y5))
  | 0 => ⟨fun _ _ _ r h => by simp [pointsmanref02_Put.l0] at h, fun _ _ _ _ r h => by simp [pointsmanref02_Put.l1] at h, fun _ _ _ _ _ _ r h => by simp [pointsmanref02_Put.l2] at h⟩
  | k + 1 => by
    obtain ⟨ih0, ih1, ih2⟩ := pointsmanref02_Put.mono_l k
    refine ⟨?_, ?_, ?_⟩
    · intro y0 y1 y2
      unfold pointsmanref02_Put.l0
      repeat' first
      | (with_reducible exact ih0 _ _ _)
      | (with_reducible exact ih1 _ _ _ _)
      | (with_reducible exact ih2 _ _ _ _ _ _)
      | (with_reducible exact pointsmanref01_Bits.mono _ _ _ _)
      | (with_reducible exact pointsmanref01_Check.mono _ _ _ _)
      | (with_reducible exact LeO.refl _)
      | (with_reducible exact LeO.none _)
      | (with_reducible refine LeO.ite ?_ ?_)
      | (with_reducible refine LeO.bind ?_ (fun _ => ?_))
      | exact ih0 _ _ _
      | exact ih1 _ _ _ _
      | exact ih2 _ _ _ _ _ _
      | exact pointsmanref01_Bits.mono _ _ _ _
      | exact pointsmanref01_Check.mono _ _ _ _
      | exact LeO.none _
      | refine LeO.ite ?_ ?_
      | refine LeO.bind ?_ (fun _ => ?_)
    · intro y0 y1 y2 y3
      unfold pointsmanref02_Put.l1
      repeat' first
      | (with_reducible exact ih0 _ _ _)
      | (with_reducible exact ih1 _ _ _ _)
      | (with_reducible exact ih2 _ _ _ _ _ _)
      | (with_reducible exact pointsmanref01_Bits.mono _ _ _ _)
      | (with_reducible exact pointsmanref01_Check.mono _ _ _ _)
      | (with_reducible exact LeO.refl _)
      | (with_reducible exact LeO.none _)
      | (with_reducible refine LeO.ite ?_ ?_)
      | (with_reducible refine LeO.bind ?_ (fun _ => ?_))
      | exact ih0 _ _ _
      | exact ih1 _ _ _ _
      | exact ih2 _ _ _ _ _ _
      | exact pointsmanref01_Bits.mono _ _ _ _
      | exact pointsmanref01_Check.mono _ _ _ _
      | exact LeO.none _
      | refine LeO.ite ?_ ?_
      | refine LeO.bind ?_ (fun _ => ?_)
    · intro y0 y1 y2 y3 y4 y5
      unfold pointsmanref02_Put.l2
      repeat' first
      | (with_reducible exact ih0 _ _ _)
      | (with_reducible exact ih1 _ _ _ _)
      | (with_reducible exact ih2 _ _ _ _ _ _)
      | (with_reducible exact pointsmanref01_Bits.mono _ _ _ _)
      | (with_reducible exact pointsmanref01_Check.mono _ _ _ _)
      | (with_reducible exact LeO.refl _)
      | (with_reducible exact LeO.none _)
      | (with_reducible refine LeO.ite ?_ ?_)
      | (with_reducible refine LeO.bind ?_ (fun _ => ?_))
      | exact ih0 _ _ _
      | exact ih1 _ _ _ _
      | exact ih2 _ _ _ _ _ _
      | exact pointsmanref01_Bits.mono _ _ _ _
      | exact pointsmanref01_Check.mono _ _ _ _
      | exact LeO.none _
      | refine LeO.ite ?_ ?_
      | refine LeO.bind ?_ (fun _ => ?_)
theorem pointsmanref02_Put.mono : ∀ a0 k, LeO (pointsmanref02_Put.f k a0) (pointsmanref02_Put.f (k + 1) a0) := by
  intro a0 k
  obtain ⟨ih0, ih1, ih2⟩ := pointsmanref02_Put.mono_l k
  unfold pointsmanref02_Put.f
  repeat' first
      | (with_reducible exact ih0 _ _ _)
      | (with_reducible exact ih1 _ _ _ _)
      | (with_reducible exact ih2 _ _ _ _ _ _)
      | (with_reducible exact pointsmanref01_Bits.mono _ _ _ _)
      | (with_reducible exact pointsmanref01_Check.mono _ _ _ _)
      | (with_reducible exact LeO.refl _)
      | (with_reducible exact LeO.none _)
      | (with_reducible refine LeO.ite ?_ ?_)
      | (with_reducible refine LeO.bind ?_ (fun _ => ?_))
      | exact ih0 _ _ _
      | exact ih1 _ _ _ _
      | exact ih2 _ _ _ _ _ _
      | exact pointsmanref01_Bits.mono _ _ _ _
      | exact pointsmanref01_Check.mono _ _ _ _
      | exact LeO.none _
      | refine LeO.ite ?_ ?_
      | refine LeO.bind ?_ (fun _ => ?_)
def pointsmanref02_Put.T20 : Bool × List (List Nat × List Nat) := (true, [([], []), ([], []), ([1], [1]), ([], []), ([], []), ([4], [4]), ([3, 5], [3, 5]), ([6], [6]), ([], []), ([8], [8]), ([9], [9]), ([10], [10]), ([7, 11], [7, 11]), ([0, 2, 0, 1, 2, 3, 4, 5, 6, 7, 8, 9, 10, 11, 12], [0, 2]), ([13, 12, 0, 1, 2, 3, 4, 5, 6, 7, 8, 9, 10, 11, 12], [12, 13])])
def pointsmanref02_Put.B20 : List Nat := [0, 0, 2, 0, 0, 16, 56, 120, 0, 256, 768, 1792, 4088, 8191, 16383]
theorem pointsmanref02_Put.tab20 : rtab .any (opsOf Tryz.f8 20) = pointsmanref02_Put.T20 := by kernel_rfl
theorem pointsmanref02_Put.bits20 : waitsOk pointsmanref02_Put.T20.2 pointsmanref02_Put.B20 = true := by kernel_rfl
set_option maxHeartbeats 8000000 in
set_option maxRecDepth 100000 in
theorem pointsmanref02_Put.calls (k : Nat) (A0 : Option Addr) (c0 : Nat) (l0 : List (S79)) (r1 : List Int) (r2 : Int) (w : World) (hr0 : Kd.C k79 w A0 l0.length l0) (hc0 : l0.length ≤ c0) (h : pointsmanref02_Put.f k l0 = some (r1, r2)) :
    Calls Tryz.prog 8 #[.slice A0 l0.length c0] w fun e w' => ∃ v0_ : Value, e = .returned (.tuple #[v0_, .int .i64 r2]) ∧ Kd.R (Kd.int .u8) 5 w' w.heap.size (fun _ => True) v0_ r1 ∧ Below w.heap.size w w' := by
  have hu79 := Tryz.underlying79
  have HR0 := Aside0.mk hr0
  have HC0 := Aside0.mk hc0
  clear hr0 hc0
  have HB := Aside0.mk (Below.refl w.heap.size w)
  have H : (pointsmanref02_Put.l0 k l0 0 0) = some (r1, r2) := h
  clear h
  have H' := Aside0.mk H
  clear H
  go_enter Tryz.func8, Tryz.ntmps8
  go_wp2
  go_loopg [4, 5] k (fun kq v4 v5 w' => ∃ (x4_1 : Int) (x5_1 : Int), v4 = .int .i64 x4_1 ∧ v5 = .int .i64 x5_1 ∧ Aside0 (pointsmanref02_Put.l0 kq l0 x4_1 x5_1 = some (r1, r2)) ∧ Aside0 (kq ≤ k) ∧ Aside0 (Below w.heap.size w w'))
  case atStart => exact ⟨(0), (0), (by first | rfl | (simp; done) | (simp [*]; done)), (by first | rfl | (simp; done) | (simp [*]; done)), H', ⟨Nat.le_refl _⟩, ⟨by repeat (first | (with_reducible first | exact HB.out | apply below_alloc | apply pw_below_drewN | apply below_drew1) | exact HB.out)⟩⟩
  case round =>
    clear H'
    obtain ⟨x4_1, x5_1, rfl, rfl, HA, HK1, HB⟩ := hrel
    cases gk with
    | zero => exact absurd HA.out (by simp [pointsmanref02_Put.l0])
    | succ k1 =>
      have H := HA.out
      clear HA
      simp only [pointsmanref02_Put.l0] at H
      by_cases c2 : x5_1 < (l0.length : Int)
      · rw [if_pos c2] at H
        have c2b0 : decide (x5_1 < (l0.length : Int)) = true := decide_eq_true c2
        clear c2
        by_cases c3 : 0 ≤ x5_1
        · rw [if_pos c3] at H
          have c3b0 : decide (0 ≤ x5_1) = true := decide_eq_true c3
          clear c3
          replace H := Option.bind_eq_some_iff.mp H
          obtain ⟨t125, A40, H⟩ := H
          replace H : (if t125 = true then (pointsmanref02_Put.l0 k1 l0 (wrap64 (x4_1 + ((rd_T79 l0 x5_1).f0))) (wrap64 (x5_1 + 1))) else (some (([] : List Int), 1))) = some (r1, r2) := H
          have A4 := Aside0.mk A40
          clear A40
          by_cases c5 : t125 = true
          · subst c5
            have H1 : (pointsmanref02_Put.l0 k1 l0 (wrap64 (x4_1 + ((rd_T79 l0 x5_1).f0))) (wrap64 (x5_1 + 1))) = some (r1, r2) := by rw [if_pos rfl] at H; exact H
            clear H
            have H := H1
            clear H1
            have H' := Aside0.mk H
            clear H
            have p124 : 0 ≤ (x5_1 : Int) := of_decide_eq_true (by first | (with_reducible assumption) | assumption)
            have q124 : x5_1 < (l0.length : Int) := of_decide_eq_true (by first | (with_reducible assumption) | assumption)
            obtain ⟨ad124, e124, hx124_0, hx124_1, hx124_2⟩ := at_T79 HR0.out x5_1 p124 q124
            cases e124
            replace hx124_0 := (HB.out.cell (World.block_lt_of_cell? w _ hx124_0)).trans hx124_0
            replace hx124_1 := (HB.out.cell (World.block_lt_of_cell? w _ hx124_1)).trans hx124_1
            replace hx124_2 := (HB.out.cell (World.block_lt_of_cell? w _ hx124_2)).trans hx124_2
            replace p124 := eq_true p124
            replace q124 := eq_true q124
            go_wp2_with (first | ((with_reducible refine gate_callee (f := 42) rfl ?_); refine goesL_ (some 21) rfl rfl Tryz.func42 (by kernel_rfl) rfl #[.agg #[.int .i64 ((rd_T79 l0 x5_1).f0), .int .u64 ((rd_T79 l0 x5_1).f1), .int .u64 ((rd_T79 l0 x5_1).f2)]] rfl (by (try simp only [List.map_toArray, List.map_cons, List.map_nil]); first | done | rfl | (simp only [List.length_drop, List.length_take]; rfl)) ?_; (with_reducible refine (pointsmanref01_Check.calls k1 ((rd_T79 l0 x5_1).f0) ((rd_T79 l0 x5_1).f1) ((rd_T79 l0 x5_1).f2) true _ A4.out).mono ?_); rintro e w6 ⟨rfl, hb⟩; refine ⟨_, rfl, ?_⟩; have n0_ := Aside0.mk (below_step (by repeat (first | (with_reducible first | exact HB.out | apply below_alloc | apply pw_below_drewN | apply below_drew1) | exact HB.out)) hb); clear HB; have HB := n0_; clear n0_; (try clear hb); (try clear hb2); (try clear hk); (try clear hi); have p126 : 0 ≤ (x5_1 : Int) := of_decide_eq_true (by first | (with_reducible assumption) | assumption); have q126 : x5_1 < (l0.length : Int) := of_decide_eq_true (by first | (with_reducible assumption) | assumption); obtain ⟨ad126, e126, hx126_0, hx126_1, hx126_2⟩ := at_T79 HR0.out x5_1 p126 q126; obtain rfl : ad124 = ad126 := (by injection e126); replace hx126_0 := (HB.out.cell (World.block_lt_of_cell? w _ hx126_0)).trans hx126_0; replace hx126_1 := (HB.out.cell (World.block_lt_of_cell? w _ hx126_1)).trans hx126_1; replace hx126_2 := (HB.out.cell (World.block_lt_of_cell? w _ hx126_2)).trans hx126_2; replace p126 := eq_true p126; replace q126 := eq_true q126))
            go_roundg k1
            case measure => have := HK1.out; omega
            case rel => exact ⟨(wrap64 (x4_1 + ((rd_T79 l0 x5_1).f0))), (wrap64 (x5_1 + 1)), (by first | rfl | (simp; done) | (simp [*]; done)), (by first | rfl | (simp; done) | (simp [*]; done)), H', ⟨by have := HK1.out; omega⟩, ⟨by repeat (first | (with_reducible first | exact HB.out | apply below_alloc | apply pw_below_drewN | apply below_drew1) | exact HB.out)⟩⟩
          · replace c5 := Bool.eq_false_iff.mpr c5
            subst c5
            have H1 : (some (([] : List Int), 1)) = some (r1, r2) := by rw [if_neg (show ¬ (false = true) by decide)] at H; exact H
            clear H
            have H := H1
            clear H1
            simp only [Option.some.injEq, Prod.mk.injEq] at H
            obtain ⟨rfl, rfl⟩ := H
            have p124 : 0 ≤ (x5_1 : Int) := of_decide_eq_true (by first | (with_reducible assumption) | assumption)
            have q124 : x5_1 < (l0.length : Int) := of_decide_eq_true (by first | (with_reducible assumption) | assumption)
            obtain ⟨ad124, e124, hx124_0, hx124_1, hx124_2⟩ := at_T79 HR0.out x5_1 p124 q124
            cases e124
            replace hx124_0 := (HB.out.cell (World.block_lt_of_cell? w _ hx124_0)).trans hx124_0
            replace hx124_1 := (HB.out.cell (World.block_lt_of_cell? w _ hx124_1)).trans hx124_1
            replace hx124_2 := (HB.out.cell (World.block_lt_of_cell? w _ hx124_2)).trans hx124_2
            replace p124 := eq_true p124
            replace q124 := eq_true q124
            go_wp2_with (first | ((with_reducible refine gate_callee (f := 42) rfl ?_); refine goesL_ (some 21) rfl rfl Tryz.func42 (by kernel_rfl) rfl #[.agg #[.int .i64 ((rd_T79 l0 x5_1).f0), .int .u64 ((rd_T79 l0 x5_1).f1), .int .u64 ((rd_T79 l0 x5_1).f2)]] rfl (by (try simp only [List.map_toArray, List.map_cons, List.map_nil]); first | done | rfl | (simp only [List.length_drop, List.length_take]; rfl)) ?_; (with_reducible refine (pointsmanref01_Check.calls k1 ((rd_T79 l0 x5_1).f0) ((rd_T79 l0 x5_1).f1) ((rd_T79 l0 x5_1).f2) false _ A4.out).mono ?_); rintro e w7 ⟨rfl, hb⟩; refine ⟨_, rfl, ?_⟩; have n0_ := Aside0.mk (below_step (by repeat (first | (with_reducible first | exact HB.out | apply below_alloc | apply pw_below_drewN | apply below_drew1) | exact HB.out)) hb); clear HB; have HB := n0_; clear n0_; (try clear hb); (try clear hb2); (try clear hk); (try clear hi)))
            go_ret2
            exact ⟨_, by first | rfl | (simp [errW_none, errW_some] <;> rfl) | (simp [*, errW_none, errW_some] <;> rfl), by first | exact Kd.R_nil _ _ _ _ _ | exact Kd.N_nil _ _ _ _ _ | exact Kd.V_nil _ _ _ _ _ | exact Kd.Q_nil _ _ _ _ _ | exact Kd.S_nil _ _ _ _ _, by repeat (first | (with_reducible first | exact HB.out | apply below_alloc | apply pw_below_drewN | apply below_drew1) | exact HB.out)⟩
        · rw [if_neg c3] at H
          exact absurd H (by simp)
      · rw [if_neg c2] at H
        have c2b0 : decide (x5_1 < (l0.length : Int)) = false := decide_eq_false c2
        clear c2
        by_cases c8 : x4_1 > 524288
        · rw [if_pos c8] at H
          have c8b0 : decide (524288 < x4_1) = true := decide_eq_true c8
          clear c8
          simp only [Option.some.injEq, Prod.mk.injEq] at H
          obtain ⟨rfl, rfl⟩ := H
          go_wp2
          go_ret2
          exact ⟨_, by first | rfl | (simp [errW_none, errW_some] <;> rfl) | (simp [*, errW_none, errW_some] <;> rfl), by first | exact Kd.R_nil _ _ _ _ _ | exact Kd.N_nil _ _ _ _ _ | exact Kd.V_nil _ _ _ _ _ | exact Kd.Q_nil _ _ _ _ _ | exact Kd.S_nil _ _ _ _ _, by repeat (first | (with_reducible first | exact HB.out | apply below_alloc | apply pw_below_drewN | apply below_drew1) | exact HB.out)⟩
        · rw [if_neg c8] at H
          have c8b0 : decide (524288 < x4_1) = false := decide_eq_false c8
          clear c8
          obtain ⟨ji9, hji9⟩ : ∃ j_ : Int, (wrap64 (Int.tdiv (wrap64 (x4_1 + 7)) 8)) = j_ := ⟨_, rfl⟩
          replace H : (if 0 ≤ (ji9) then (if (ji9 : Int).toNat ≤ 281474976710656 then (pointsmanref02_Put.l1 k1 l0 (List.replicate (ji9 : Int).toNat 0) 0 0) else (none)) else (none)) = some (r1, r2) := by first | (rw [hji9] at H; exact H) | (simp only [hji9] at H ⊢; exact H)
          have hji9w : (IntKind.i64.wrap (Int.tdiv (wrap64 (x4_1 + 7)) 8)) = ji9 := (i64_w _).trans hji9
          by_cases c10 : 0 ≤ (ji9)
          · rw [if_pos c10] at H
            have c10b0 := eq_true c10
            have c10b1 : decide (0 ≤ (ji9)) = true := decide_eq_true c10
            clear c10
            by_cases c11 : (ji9 : Int).toNat ≤ 281474976710656
            · rw [if_pos c11] at H
              have c11b0 := eq_true c11
              have c11b1 : decide ((ji9 : Int).toNat ≤ 281474976710656) = true := decide_eq_true c11
              clear c11
              obtain ⟨y127, hy127⟩ : ∃ y_ : List Int, y_ = (List.replicate (ji9 : Int).toNat 0) := ⟨_, rfl⟩
              replace H : (pointsmanref02_Put.l1 k1 l0 y127 0 0) = some (r1, r2) := by first | (rw [hy127]; with_reducible exact H) | (have H2_ := (Option.bind_some _ _).symm.trans H; rw [hy127]; with_reducible exact H2_) | (have H2_ := (Option.bind_some _ _).symm.trans H; with_reducible exact H2_) | with_reducible exact H | (rw [hy127]; exact H) | exact H
              have Ny127 := Aside0.mk hy127
              clear hy127
              have H' := Aside0.mk H
              clear H
              go_wp2_with (first | ((with_reducible refine gate_dst (N := 35) rfl ?_); refine Kd.R_make (Kd.int .u8) _ 5 rfl (N := 35) rfl 24 _ _ rfl ji9 rfl rfl Tryz.underlying24 (.int .u8 0) 1 info5 rfl (by decide) (by omega) 0 (ok := fun _ => True) (okp := fun _ => True) rfl (fun _ hk => hk) trivial (of_decide_eq_true (by first | (with_reducible assumption) | assumption)) (Nat.le_trans (Nat.mul_le_mul_right _ (of_decide_eq_true (by first | (with_reducible assumption) | assumption) : ji9.toNat ≤ 281474976710656)) (by omega)) (Below.refl _ _) (Nat.le_refl _) ?_; intro v128 w12 ho13 hb hg_ hnew_; clear hg_ hnew_; (first | rw [← Ny127.out] at ho13 | (simp only [Int.reduceToNat] at ho13; rw [← Ny127.out] at ho13)); have n0_ := Aside0.mk (Kd.R_lower ho13 (below_size (by repeat (first | (with_reducible first | exact HB.out | apply below_alloc | apply pw_below_drewN | apply below_drew1) | exact HB.out)))); have n1_ := Aside0.mk (below_step (by repeat (first | (with_reducible first | exact HB.out | apply below_alloc | apply pw_below_drewN | apply below_drew1) | exact HB.out)) hb); clear HB; have HO129 := n0_; have HB := n1_; clear n0_ n1_; clear hb ho13))
              go_loopg [7, 8] k1 (fun kq v7 v8 w' => ∃ (x6_2 : List Int) (x7_2 : Int) (x8_2 : Int), v7 = .int .i64 x7_2 ∧ v8 = .int .i64 x8_2 ∧ Aside0 (pointsmanref02_Put.l1 kq l0 x6_2 x7_2 x8_2 = some (r1, r2)) ∧ Aside0 (kq ≤ k1) ∧ Aside0 (Kd.R (Kd.int .u8) 5 w' w.heap.size (fun _ => True) v128 x6_2) ∧ Aside0 (Below w.heap.size w w'))
              case atStart => exact ⟨(y127), (0), (0), (by first | rfl | (simp; done) | (simp [*]; done)), (by first | rfl | (simp; done) | (simp [*]; done)), H', ⟨Nat.le_refl _⟩, ⟨by (with_reducible repeat (first | apply Kd.R_alloc | apply Kd.R_drewN | apply Kd.R_drew)); exact HO129.out⟩, ⟨by repeat (first | (with_reducible first | exact HB.out | apply below_alloc | apply pw_below_drewN | apply below_drew1) | exact HB.out)⟩⟩
              case round =>
                clear H'
                try clear c1
                try clear p1
                try clear q1
                try clear hx1
                try clear c2
                try clear c2b0
                try clear p2
                try clear c3
                try clear c3b0
                try clear c4
                try clear c5
                try clear p6
                try clear c8
                try clear c8b0
                try clear c10
                try clear c10b0
                try clear c10b1
                try clear c11
                try clear c11b0
                try clear c11b1
                try clear p12
                try clear q12
                try clear hx12
                try clear hx124_0
                try clear hx124_1
                try clear hx124_2
                try clear hx126_0
                try clear hx126_1
                try clear hx126_2
                try clear p124
                try clear p126
                try clear q124
                try clear q126
                obtain ⟨x6_2, x7_2, x8_2, rfl, rfl, HA, HK2, HO_6, HB⟩ := hrel
                cases gk with
                | zero => exact absurd HA.out (by simp [pointsmanref02_Put.l1])
                | succ k2 =>
                  have H := HA.out
                  clear HA
                  simp only [pointsmanref02_Put.l1] at H
                  by_cases c14 : x8_2 < (l0.length : Int)
                  · rw [if_pos c14] at H
                    have c14b0 : decide (x8_2 < (l0.length : Int)) = true := decide_eq_true c14
                    clear c14
                    by_cases c15 : 0 ≤ x8_2
                    · rw [if_pos c15] at H
                      have c15b0 : decide (0 ≤ x8_2) = true := decide_eq_true c15
                      clear c15
                      replace H := Option.bind_eq_some_iff.mp H
                      obtain ⟨t131, A160, H⟩ := H
                      replace H : (pointsmanref02_Put.l2 k2 l0 x6_2 x7_2 x8_2 t131 (wrap64 ((t131.length : Int) - 1))) = some (r1, r2) := H
                      have A16 := Aside0.mk A160
                      clear A160
                      have H' := Aside0.mk H
                      clear H
                      have p130 : 0 ≤ (x8_2 : Int) := of_decide_eq_true (by first | (with_reducible assumption) | assumption)
                      have q130 : x8_2 < (l0.length : Int) := of_decide_eq_true (by first | (with_reducible assumption) | assumption)
                      obtain ⟨ad130, e130, hx130_0, hx130_1, hx130_2⟩ := at_T79 HR0.out x8_2 p130 q130
                      cases e130
                      replace hx130_0 := (HB.out.cell (World.block_lt_of_cell? w _ hx130_0)).trans hx130_0
                      replace hx130_1 := (HB.out.cell (World.block_lt_of_cell? w _ hx130_1)).trans hx130_1
                      replace hx130_2 := (HB.out.cell (World.block_lt_of_cell? w _ hx130_2)).trans hx130_2
                      replace p130 := eq_true p130
                      replace q130 := eq_true q130
                      go_wp2_with (first | ((with_reducible refine gate_callee (f := 43) rfl ?_); refine goesL_ (some 46) rfl rfl Tryz.func43 (by kernel_rfl) rfl #[.agg #[.int .i64 ((rd_T79 l0 x8_2).f0), .int .u64 ((rd_T79 l0 x8_2).f1), .int .u64 ((rd_T79 l0 x8_2).f2)]] rfl (by (try simp only [List.map_toArray, List.map_cons, List.map_nil]); first | done | rfl | (simp only [List.length_drop, List.length_take]; rfl)) ?_; (with_reducible refine (pointsmanref01_Bits.calls k2 ((rd_T79 l0 x8_2).f0) ((rd_T79 l0 x8_2).f1) ((rd_T79 l0 x8_2).f2) t131 _ A16.out).mono ?_); rintro e w17 ⟨v132, rfl, ho0, hb⟩; refine ⟨_, rfl, ?_⟩; have n0_ := Aside0.mk (Kd.R_below (by (with_reducible repeat (first | apply Kd.R_alloc | apply Kd.R_drewN | apply Kd.R_drew)); exact HO_6.out) hb); have n1_ := Aside0.mk (Kd.R_lower ho0 (below_size (by repeat (first | (with_reducible first | exact HB.out | apply below_alloc | apply pw_below_drewN | apply below_drew1) | exact HB.out)))); have n2_ := Aside0.mk (below_step (by repeat (first | (with_reducible first | exact HB.out | apply below_alloc | apply pw_below_drewN | apply below_drew1) | exact HB.out)) hb); clear HO_6; clear HB; have HO_6 := n0_; have HO133 := n1_; have HB := n2_; clear n0_ n1_ n2_; (try clear hb); (try clear hb2); (try clear hk); (try clear hi); (try clear ho0); obtain ⟨Ao18, co18, eo18⟩ := Kd.R_slice HO133.out; subst eo18))
                      go_loopg [7, 10] k2 (fun kq v7 v10 w' => ∃ (x6_3 : List Int) (x7_3 : Int) (x10_3 : Int), v7 = .int .i64 x7_3 ∧ v10 = .int .i64 x10_3 ∧ Aside0 (pointsmanref02_Put.l2 kq l0 x6_3 x7_3 x8_2 t131 x10_3 = some (r1, r2)) ∧ Aside0 (kq ≤ k2) ∧ Aside0 (Kd.R (Kd.int .u8) 5 w' w.heap.size (fun _ => True) v128 x6_3) ∧ Aside0 (Kd.R Kd.bool 4 w' w.heap.size (fun _ => True) (.slice Ao18 t131.length co18) t131) ∧ Aside0 (Below w.heap.size w w'))
                      case atStart => exact ⟨(x6_2), (x7_2), (wrap64 ((t131.length : Int) - 1)), (by first | rfl | (simp; done) | (simp [*]; done)), (by first | rfl | (simp; done) | (simp [*]; done)), H', ⟨Nat.le_refl _⟩, ⟨by (with_reducible repeat (first | apply Kd.R_alloc | apply Kd.R_drewN | apply Kd.R_drew)); exact HO_6.out⟩, ⟨by (with_reducible repeat (first | apply Kd.R_alloc | apply Kd.R_drewN | apply Kd.R_drew)); exact HO133.out⟩, ⟨by repeat (first | (with_reducible first | exact HB.out | apply below_alloc | apply pw_below_drewN | apply below_drew1) | exact HB.out)⟩⟩
                      case round =>
                        clear H'
                        try clear c1
                        try clear p1
                        try clear q1
                        try clear hx1
                        try clear c2
                        try clear c2b0
                        try clear p2
                        try clear c3
                        try clear c3b0
                        try clear c4
                        try clear c5
                        try clear p6
                        try clear c8
                        try clear c8b0
                        try clear c10
                        try clear c10b0
                        try clear c10b1
                        try clear c11
                        try clear c11b0
                        try clear c11b1
                        try clear p12
                        try clear q12
                        try clear hx12
                        try clear p13
                        try clear q13
                        try clear hx13
                        try clear c14
                        try clear c14b0
                        try clear c15
                        try clear c15b0
                        try clear hx124_0
                        try clear hx124_1
                        try clear hx124_2
                        try clear hx126_0
                        try clear hx126_1
                        try clear hx126_2
                        try clear hx130_0
                        try clear hx130_1
                        try clear hx130_2
                        try clear p1
                        try clear p12
                        try clear p124
                        try clear p126
                        try clear p130
                        try clear p2
                        try clear p6
                        try clear q1
                        try clear q12
                        try clear q124
                        try clear q126
                        try clear q130
                        obtain ⟨x6_3, x7_3, x10_3, rfl, rfl, HA, HK3, HO_6, HO_9, HB⟩ := hrel
                        cases gk with
                        | zero => exact absurd HA.out (by simp [pointsmanref02_Put.l2])
                        | succ k3 =>
                          have H := HA.out
                          clear HA
                          simp only [pointsmanref02_Put.l2] at H
                          by_cases c19 : x10_3 ≥ 0
                          · rw [if_pos c19] at H
                            have c19b0 : decide (0 ≤ x10_3) = true := decide_eq_true c19
                            clear c19
                            by_cases c20 : 0 ≤ x10_3
                            · rw [if_pos c20] at H
                              have c20b0 : decide (0 ≤ x10_3) = true := decide_eq_true c20
                              clear c20
                              by_cases c21 : x10_3 < (t131.length : Int)
                              · rw [if_pos c21] at H
                                have c21b0 : decide (x10_3 < (t131.length : Int)) = true := decide_eq_true c21
                                clear c21
                                obtain ⟨bq22, hbq22⟩ : ∃ b_ : Bool, b_ = (rdOf false t131 x10_3) := ⟨_, rfl⟩
                                replace H : (if bq22 = true then (if 0 ≤ (wrap64 (Int.tdiv x7_3 8)) then (if (wrap64 (Int.tdiv x7_3 8)) < (x6_3.length : Int) then (if 0 ≤ (wrap64 (7 - (Int.tmod x7_3 8))) then (pointsmanref02_Put.l2 k3 l0 (x6_3.set ((wrap64 (Int.tdiv x7_3 8)) : Int).toNat (Go.bits .or .u8 (rd x6_3 (wrap64 (Int.tdiv x7_3 8))) (shl .u8 1 (wrap64 (7 - (Int.tmod x7_3 8)))))) (wrap64 (x7_3 + 1)) x8_2 t131 (wrap64 (x10_3 - 1))) else (none)) else (none)) else (none)) else (pointsmanref02_Put.l2 k3 l0 x6_3 (wrap64 (x7_3 + 1)) x8_2 t131 (wrap64 (x10_3 - 1)))) = some (r1, r2) := by rw [← hbq22] at H; exact H
                                have Nbq22 := Aside0.mk hbq22
                                clear hbq22
                                by_cases c23 : bq22 = true
                                · subst c23
                                  have H1 : (if 0 ≤ (wrap64 (Int.tdiv x7_3 8)) then (if (wrap64 (Int.tdiv x7_3 8)) < (x6_3.length : Int) then (if 0 ≤ (wrap64 (7 - (Int.tmod x7_3 8))) then (pointsmanref02_Put.l2 k3 l0 (x6_3.set ((wrap64 (Int.tdiv x7_3 8)) : Int).toNat (Go.bits .or .u8 (rd x6_3 (wrap64 (Int.tdiv x7_3 8))) (shl .u8 1 (wrap64 (7 - (Int.tmod x7_3 8)))))) (wrap64 (x7_3 + 1)) x8_2 t131 (wrap64 (x10_3 - 1))) else (none)) else (none)) else (none)) = some (r1, r2) := by rw [if_pos rfl] at H; exact H
                                  clear H
                                  have H := H1
                                  clear H1
                                  obtain ⟨ji24, hji24⟩ : ∃ j_ : Int, (wrap64 (Int.tdiv x7_3 8)) = j_ := ⟨_, rfl⟩
                                  replace H : (if 0 ≤ (ji24) then (if (ji24) < (x6_3.length : Int) then (if 0 ≤ (wrap64 (7 - (Int.tmod x7_3 8))) then (pointsmanref02_Put.l2 k3 l0 (x6_3.set ((ji24) : Int).toNat (Go.bits .or .u8 (rd x6_3 (ji24)) (shl .u8 1 (wrap64 (7 - (Int.tmod x7_3 8)))))) (wrap64 (x7_3 + 1)) x8_2 t131 (wrap64 (x10_3 - 1))) else (none)) else (none)) else (none)) = some (r1, r2) := by first | (rw [hji24] at H; exact H) | (simp only [hji24] at H ⊢; exact H)
                                  have hji24w : (IntKind.i64.wrap (Int.tdiv x7_3 8)) = ji24 := (i64_w _).trans hji24
                                  by_cases c25 : 0 ≤ (ji24)
                                  · rw [if_pos c25] at H
                                    have c25b0 : decide (0 ≤ (ji24)) = true := decide_eq_true c25
                                    clear c25
                                    by_cases c26 : (ji24) < (x6_3.length : Int)
                                    · rw [if_pos c26] at H
                                      have c26b0 : decide ((ji24) < (x6_3.length : Int)) = true := decide_eq_true c26
                                      clear c26
                                      obtain ⟨ji27, hji27⟩ : ∃ j_ : Int, (wrap64 (7 - (Int.tmod x7_3 8))) = j_ := ⟨_, rfl⟩
                                      replace H : (if 0 ≤ (ji27) then (pointsmanref02_Put.l2 k3 l0 (x6_3.set ((ji24) : Int).toNat (Go.bits .or .u8 (rd x6_3 (ji24)) (shl .u8 1 (ji27)))) (wrap64 (x7_3 + 1)) x8_2 t131 (wrap64 (x10_3 - 1))) else (none)) = some (r1, r2) := by first | (rw [hji27] at H; exact H) | (simp only [hji27] at H ⊢; exact H)
                                      have hji27w : (IntKind.i64.wrap (7 - (Int.tmod x7_3 8))) = ji27 := (i64_w _).trans hji27
                                      by_cases c28 : 0 ≤ (ji27)
                                      · rw [if_pos c28] at H
                                        have c28b0 := eq_true c28
                                        have c28b1 : decide (0 ≤ (ji27)) = true := decide_eq_true c28
                                        clear c28
                                        obtain ⟨ji29, hji29⟩ : ∃ j_ : Int, (shl .u8 1 (ji27)) = j_ := ⟨_, rfl⟩
                                        replace H : (pointsmanref02_Put.l2 k3 l0 (x6_3.set ((ji24) : Int).toNat (Go.bits .or .u8 (rd x6_3 (ji24)) (ji29))) (wrap64 (x7_3 + 1)) x8_2 t131 (wrap64 (x10_3 - 1))) = some (r1, r2) := by first | (rw [hji29] at H; exact H) | (simp only [hji29] at H ⊢; exact H)
                                        have hji29_ : (IntKind.u8.wrap (1 * 2 ^ min (ji27).toNat 8)) = ji29 := hji29
                                        have hji29z : (ji27) ≤ 8 → (IntKind.u8.wrap (1 * 2 ^ (ji27).toNat)) = ji29 := shl_small hji29
                                        have hji29u : (IntKind.u8.wrap (2 ^ min (ji27).toNat 8)) = ji29 := by have h_ := hji29_; rw [Int.one_mul] at h_; exact h_
                                        have hji29v : (ji27) ≤ 8 → (IntKind.u8.wrap (2 ^ (ji27).toNat)) = ji29 := fun hle_ => by have h_ := hji29z hle_; rw [Int.one_mul] at h_; exact h_
                                        obtain ⟨y136, hy136⟩ : ∃ y_ : List Int, y_ = (x6_3.set ((ji24) : Int).toNat (Go.bits .or .u8 (rd x6_3 (ji24)) (ji29))) := ⟨_, rfl⟩
                                        replace H : (pointsmanref02_Put.l2 k3 l0 y136 (wrap64 (x7_3 + 1)) x8_2 t131 (wrap64 (x10_3 - 1))) = some (r1, r2) := by first | (rw [hy136]; with_reducible exact H) | (have H2_ := (Option.bind_some _ _).symm.trans H; rw [hy136]; with_reducible exact H2_) | (have H2_ := (Option.bind_some _ _).symm.trans H; with_reducible exact H2_) | with_reducible exact H | (rw [hy136]; exact H) | exact H
                                        have Ny136 := Aside0.mk hy136
                                        clear hy136
                                        have H' := Aside0.mk H
                                        clear H
                                        have p134 : 0 ≤ (x10_3 : Int) := of_decide_eq_true (by first | (with_reducible assumption) | assumption)
                                        have q134 : x10_3 < (t131.length : Int) := of_decide_eq_true (by first | (with_reducible assumption) | assumption)
                                        obtain ⟨ad134, e134, hx134_0⟩ := Kd.at_bool (Kd.R_reads' HO_9.out).2.2 x10_3 p134 q134
                                        (try rw [← Nbq22.out] at hx134_0)
                                        cases e134
                                        replace p134 := eq_true p134
                                        replace q134 := eq_true q134
                                        try go_wp2
                                        have n0_ := Aside0.mk (Kd.R_drew HO_6.out)
                                        have n1_ := Aside0.mk (Kd.R_drew HO_9.out)
                                        have n2_ := Aside0.mk (below_drew1 HB.out)
                                        clear HO_6
                                        clear HO_9
                                        clear HB
                                        have HO_6 := n0_
                                        have HO_9 := n1_
                                        have HB := n2_
                                        clear n0_ n1_ n2_
                                        obtain ⟨Ao32, co32, eo32⟩ := Kd.R_slice HO_6.out
                                        (first | subst eo32 | (injection eo32 with f1_ f2_ f3_; have f4_ := f1_.symm; have f5_ := f3_.symm; clear f1_ f2_ f3_; subst f4_; subst f5_))
                                        have p135 : 0 ≤ ((ji24) : Int) := of_decide_eq_true (by first | (with_reducible assumption) | assumption)
                                        have q135 : (ji24) < (x6_3.length : Int) := of_decide_eq_true (by first | (with_reducible assumption) | assumption)
                                        obtain ⟨ad135, e135, hx135_0⟩ := Kd.at_int (Kd.R_reads' HO_6.out).2.2 (ji24) p135 q135
                                        cases e135
                                        replace p135 := eq_true p135
                                        replace q135 := eq_true q135
                                        have p30 : 0 ≤ ((ji24) : Int) := of_decide_eq_true (by first | (with_reducible assumption) | assumption)
                                        have q30 : ((ji24) : Int) < ((x6_3.length : Int) : Int) := of_decide_eq_true (by first | (with_reducible assumption) | assumption)
                                        obtain ⟨go30, co30, eo30, gb30, gl30, cl30, HG30⟩ := Kd.R_form HO_6.out (by omega)
                                        (first | cases eo30 | (injection eo30 with ea_ en_ ec_; (first | subst ea_ | (injection ea_ with ea_; subst ea_)); subst ec_; clear en_))
                                        have GB30 := Aside0.mk gb30
                                        have GG30 := Aside0.mk HG30
                                        clear gb30 gl30 HG30
                                        (first | simp only [add_plain] at hx135_0 | skip)
                                        obtain ⟨hx30_0, hf30_0⟩ := Kd.R_celln 0 HO_6.out ((ji24) : Int) p30 q30
                                        replace p30 := eq_true p30
                                        replace q30 := eq_true q30
                                        have HP33 := Kd.R_putn HO_6.out ((ji24) : Int) (Go.bits .or .u8 (rd x6_3 (ji24)) (ji29))
                                        rw [← Ny136.out] at HP33
                                        have HQ33 := Aside0.mk HP33
                                        clear HP33
                                        refine start_ (n := 15) (S := fun w' => w'.cell? ⟨go30, ((ji24)).toNat, none⟩ = some (.int .u8 (rd x6_3 (ji24)))) (ds := [14]) #[false, false, false, false, false, false, false, false, false, false, false, false, false, false, false] (by kernel_rfl) rfl rfl (hx135_0) (fun hHeld => ?_); refine with_tabW pointsmanref02_Put.tab20 pointsmanref02_Put.bits20 (fun HT_ HW_ => ?_)
                                        generalize wr.drew = w31 at HO_6 HO_9 HB GG30 HQ33 hf30_0 hx135_0 hx30_0 hHeld ⊢
                                        refine pure_ (i := 0) (N := some 58) (v := ?_) (a' := ?_) #[true, false, false, false, false, false, false, false, false, false, false, false, false, false, false] rfl rfl (any_of HT_.out (by kernel_rfl)) (fun _ _ _ h => h) (Or.inl ⟨by rfl, ?_⟩) ?_ ?_
                                        rotate_left
                                        · intro w'
                                          go_simp
                                          with_reducible rfl
                                        rotate_left
                                        · simp only [Act.put, List.setIfInBounds_toArray, List.set_cons_zero, List.set_cons_succ, i64_w, i32_w]
                                          rfl
                                        refine pure_ (i := 1) (N := some 59) (v := ?_) (a' := ?_) #[true, true, false, false, false, false, false, false, false, false, false, false, false, false, false] rfl rfl (any_of HT_.out (by kernel_rfl)) (fun _ _ _ h => h) (Or.inl ⟨by rfl, ?_⟩) ?_ ?_
                                        rotate_left
                                        · intro w'
                                          go_simp
                                          with_reducible rfl
                                        rotate_left
                                        · simp only [Act.put, List.setIfInBounds_toArray, List.set_cons_zero, List.set_cons_succ, i64_w, i32_w]
                                          rfl
                                        refine pure_ (i := 2) (N := some 60) (v := ?_) (a' := ?_) #[true, true, true, false, false, false, false, false, false, false, false, false, false, false, false] rfl rfl (any_of HT_.out (by kernel_rfl)) (fun _ _ _ h => h) (Or.inl ⟨by rfl, ?_⟩) ?_ ?_
                                        rotate_left
                                        · intro w'
                                          go_simp
                                          with_reducible rfl
                                        rotate_left
                                        · simp only [Act.put, List.setIfInBounds_toArray, List.set_cons_zero, List.set_cons_succ, i64_w, i32_w]
                                          rfl
                                        refine pure_ (i := 3) (N := some 61) (v := ?_) (a' := ?_) #[true, true, true, true, false, false, false, false, false, false, false, false, false, false, false] rfl rfl (any_of HT_.out (by kernel_rfl)) (fun _ _ _ h => h) (Or.inl ⟨by rfl, ?_⟩) ?_ ?_
                                        rotate_left
                                        · intro w'
                                          go_simp
                                          with_reducible rfl
                                        rotate_left
                                        · simp only [Act.put, List.setIfInBounds_toArray, List.set_cons_zero, List.set_cons_succ, i64_w, i32_w]
                                          rfl
                                        refine pure_ (i := 4) (N := some 62) (v := ?_) (a' := ?_) #[true, true, true, true, true, false, false, false, false, false, false, false, false, false, false] rfl rfl (any_of HT_.out (by kernel_rfl)) (fun _ _ _ h => h) (Or.inl ⟨by rfl, ?_⟩) ?_ ?_
                                        rotate_left
                                        · intro w'
                                          go_simp
                                          with_reducible rfl
                                        rotate_left
                                        · simp only [Act.put, List.setIfInBounds_toArray, List.set_cons_zero, List.set_cons_succ, i64_w, i32_w]
                                          rfl
                                        refine pure_ (i := 5) (N := some 63) (v := ?_) (a' := ?_) #[true, true, true, true, true, true, false, false, false, false, false, false, false, false, false] rfl rfl (any_of HT_.out (by kernel_rfl)) (fun _ _ _ h => h) (Or.inl ⟨by rfl, ?_⟩) ?_ ?_
                                        rotate_left
                                        · intro w'
                                          go_simp
                                          with_reducible rfl
                                        rotate_left
                                        · simp only [Act.put, List.setIfInBounds_toArray, List.set_cons_zero, List.set_cons_succ, i64_w, i32_w]
                                          rfl
                                        refine pure_ (i := 6) (N := some 64) (v := ?_) (a' := ?_) #[true, true, true, true, true, true, true, false, false, false, false, false, false, false, false] rfl rfl (any_of HT_.out (by kernel_rfl)) (fun _ _ _ h => h) (Or.inl ⟨by rfl, ?_⟩) ?_ ?_
                                        rotate_left
                                        · intro w'
                                          go_simp
                                          with_reducible rfl
                                        rotate_left
                                        · simp only [Act.put, List.setIfInBounds_toArray, List.set_cons_zero, List.set_cons_succ, i64_w, i32_w]
                                          rfl
                                        refine pure_ (i := 8) (N := some 66) (v := ?_) (a' := ?_) #[true, true, true, true, true, true, true, false, true, false, false, false, false, false, false] rfl rfl (any_of HT_.out (by kernel_rfl)) (fun _ _ _ h => h) (Or.inl ⟨by rfl, ?_⟩) ?_ ?_
                                        rotate_left
                                        · intro w'
                                          go_simp
                                          with_reducible rfl
                                        rotate_left
                                        · simp only [Act.put, List.setIfInBounds_toArray, List.set_cons_zero, List.set_cons_succ, i64_w, i32_w]
                                          rfl
                                        refine pure_ (i := 9) (N := some 67) (v := ?_) (a' := ?_) #[true, true, true, true, true, true, true, false, true, true, false, false, false, false, false] rfl rfl (any_of HT_.out (by kernel_rfl)) (fun _ _ _ h => h) (Or.inl ⟨by rfl, ?_⟩) ?_ ?_
                                        rotate_left
                                        · intro w'
                                          go_simp
                                          with_reducible rfl
                                        rotate_left
                                        · simp only [Act.put, List.setIfInBounds_toArray, List.set_cons_zero, List.set_cons_succ, i64_w, i32_w]
                                          rfl
                                        refine pure_ (i := 10) (N := some 68) (v := ?_) (a' := ?_) #[true, true, true, true, true, true, true, false, true, true, true, false, false, false, false] rfl rfl (any_of HT_.out (by kernel_rfl)) (fun _ _ _ h => h) (Or.inl ⟨by rfl, ?_⟩) ?_ ?_
                                        rotate_left
                                        · intro w'
                                          go_simp
                                          with_reducible rfl
                                        rotate_left
                                        · simp only [Act.put, List.setIfInBounds_toArray, List.set_cons_zero, List.set_cons_succ, i64_w, i32_w]
                                          rfl
                                        refine pure_ (i := 11) (N := some 69) (v := ?_) (a' := ?_) #[true, true, true, true, true, true, true, false, true, true, true, true, false, false, false] rfl rfl (any_of HT_.out (by kernel_rfl)) (fun _ _ _ h => h) (Or.inl ⟨by rfl, ?_⟩) ?_ ?_
                                        rotate_left
                                        · intro w'
                                          go_simp
                                          with_reducible rfl
                                        rotate_left
                                        · simp only [Act.put, List.setIfInBounds_toArray, List.set_cons_zero, List.set_cons_succ, i64_w, i32_w]
                                          rfl
                                        refine take_ (i := 7) (N := some 65) (v := ?_) (a' := ?_) #[true, true, true, true, true, true, true, true, true, true, true, true, false, false, false] rfl rfl (take_ofW HT_.out HW_.out (by kernel_rfl)) (fun _ _ _ h => h) (Or.inl ⟨by rfl, ?_⟩) hHeld ?_ ?_
                                        rotate_left
                                        · intro w' s0
                                          go_simp
                                          with_reducible rfl
                                        rotate_left
                                        · simp only [Act.put, List.setIfInBounds_toArray, List.set_cons_zero, List.set_cons_succ, i64_w, i32_w]
                                          rfl
                                        refine pure_ (i := 12) (N := some 70) (v := ?_) (a' := ?_) #[true, true, true, true, true, true, true, true, true, true, true, true, true, false, false] rfl rfl (any_of HT_.out (by kernel_rfl)) (fun _ _ _ h => h) (Or.inl ⟨by rfl, ?_⟩) ?_ ?_
                                        rotate_left
                                        · intro w'
                                          go_simp
                                          with_reducible rfl
                                        rotate_left
                                        · simp only [Act.put, List.setIfInBounds_toArray, List.set_cons_zero, List.set_cons_succ, i64_w, i32_w]
                                          rfl
                                        refine pure_ (i := 13) (N := some 71) (v := ?_) (a' := ?_) #[true, true, true, true, true, true, true, true, true, true, true, true, true, true, false] rfl rfl (any_of HT_.out (by kernel_rfl)) (fun _ _ _ h => h) (Or.inl ⟨by rfl, ?_⟩) ?_ ?_
                                        rotate_left
                                        · intro w'
                                          go_simp
                                          with_reducible rfl
                                        rotate_left
                                        · simp only [Act.put, List.setIfInBounds_toArray, List.set_cons_zero, List.set_cons_succ, i64_w, i32_w]
                                          rfl
                                        refine last_ (i := 14) (N := none) #[true, true, true, true, true, true, true, true, true, true, true, true, true, true, true] rfl rfl (one_of HT_.out (by kernel_rfl)) (by decide) (fun K hK => ?_)
                                        refine skip_ (w1 := ?_) (by rfl) rfl ?_ ?_
                                        rotate_left
                                        · go_simp
                                          rfl
                                        refine hK.out _ _ ?_
                                        clear hK K
                                        refine done_ (done_of HT_.out (by kernel_rfl)) ?_
                                        try go_wp2
                                        go_roundg k3
                                        case measure => have := HK1.out; have := HK2.out; have := HK3.out; omega
                                        case rel => exact ⟨(y136), (wrap64 (x7_3 + 1)), (wrap64 (x10_3 - 1)), (by first | rfl | (simp; done) | (simp [*]; done)), (by first | rfl | (simp; done) | (simp [*]; done)), H', ⟨by have := HK1.out; have := HK2.out; have := HK3.out; omega⟩, ⟨by (with_reducible repeat (first | apply Kd.R_alloc | apply Kd.R_drewN | apply Kd.R_drew)); exact HQ33.out⟩, ⟨by (with_reducible repeat (first | apply Kd.R_alloc | apply Kd.R_drewN | apply Kd.R_drew)); exact Kd.R_mono (Kd.R_far (p := ⟨go30, ((ji24) : Int).toNat, none⟩) (Kd.R_types HO_9.out GG30.out (by decide)) (fun _ hk => hk.2) (.int .u8 (Go.bits .or .u8 (rd x6_3 (ji24)) (ji29)))) (fun _ hk => trivial)⟩, ⟨by repeat (first | (with_reducible first | exact HB.out | apply below_alloc | apply pw_below_drewN | apply below_drew1 | refine below_set ?_ GB30.out) | exact HB.out)⟩⟩
                                      · rw [if_neg c28] at H
                                        exact absurd H (by simp)
                                    · rw [if_neg c26] at H
                                      exact absurd H (by simp)
                                  · rw [if_neg c25] at H
                                    exact absurd H (by simp)
                                · replace c23 := Bool.eq_false_iff.mpr c23
                                  subst c23
                                  have H1 : (pointsmanref02_Put.l2 k3 l0 x6_3 (wrap64 (x7_3 + 1)) x8_2 t131 (wrap64 (x10_3 - 1))) = some (r1, r2) := by rw [if_neg (show ¬ (false = true) by decide)] at H; exact H
                                  clear H
                                  have H := H1
                                  clear H1
                                  have H' := Aside0.mk H
                                  clear H
                                  have p134 : 0 ≤ (x10_3 : Int) := of_decide_eq_true (by first | (with_reducible assumption) | assumption)
                                  have q134 : x10_3 < (t131.length : Int) := of_decide_eq_true (by first | (with_reducible assumption) | assumption)
                                  obtain ⟨ad134, e134, hx134_0⟩ := Kd.at_bool (Kd.R_reads' HO_9.out).2.2 x10_3 p134 q134
                                  (try rw [← Nbq22.out] at hx134_0)
                                  cases e134
                                  replace p134 := eq_true p134
                                  replace q134 := eq_true q134
                                  go_wp2
                                  go_roundg k3
                                  case measure => have := HK1.out; have := HK2.out; have := HK3.out; omega
                                  case rel => exact ⟨(x6_3), (wrap64 (x7_3 + 1)), (wrap64 (x10_3 - 1)), (by first | rfl | (simp; done) | (simp [*]; done)), (by first | rfl | (simp; done) | (simp [*]; done)), H', ⟨by have := HK1.out; have := HK2.out; have := HK3.out; omega⟩, ⟨by (with_reducible repeat (first | apply Kd.R_alloc | apply Kd.R_drewN | apply Kd.R_drew)); exact HO_6.out⟩, ⟨by (with_reducible repeat (first | apply Kd.R_alloc | apply Kd.R_drewN | apply Kd.R_drew)); exact HO_9.out⟩, ⟨by repeat (first | (with_reducible first | exact HB.out | apply below_alloc | apply pw_below_drewN | apply below_drew1) | exact HB.out)⟩⟩
                              · rw [if_neg c21] at H
                                exact absurd H (by simp)
                            · rw [if_neg c20] at H
                              exact absurd H (by simp)
                          · rw [if_neg c19] at H
                            have c19b0 : decide (0 ≤ x10_3) = false := decide_eq_false c19
                            clear c19
                            have H' := Aside0.mk H
                            clear H
                            go_wp2
                            go_roundg k3
                            case measure => have := HK1.out; have := HK2.out; have := HK3.out; omega
                            case rel => exact ⟨(x6_3), (x7_3), (wrap64 (x8_2 + 1)), (by first | rfl | (simp; done) | (simp [*]; done)), (by first | rfl | (simp; done) | (simp [*]; done)), H', ⟨by have := HK1.out; have := HK2.out; have := HK3.out; omega⟩, ⟨by (with_reducible repeat (first | apply Kd.R_alloc | apply Kd.R_drewN | apply Kd.R_drew)); exact HO_6.out⟩, ⟨by repeat (first | (with_reducible first | exact HB.out | apply below_alloc | apply pw_below_drewN | apply below_drew1) | exact HB.out)⟩⟩
                    · rw [if_neg c15] at H
                      exact absurd H (by simp)
                  · rw [if_neg c14] at H
                    have c14b0 : decide (x8_2 < (l0.length : Int)) = false := decide_eq_false c14
                    clear c14
                    simp only [Option.some.injEq, Prod.mk.injEq] at H
                    obtain ⟨rfl, rfl⟩ := H
                    go_wp2
                    go_ret2
                    exact ⟨_, by first | rfl | (simp [errW_none, errW_some] <;> rfl) | (simp only [← hji9]; first | rfl | (simp [errW_none, errW_some] <;> rfl)) | (simp [*, errW_none, errW_some] <;> rfl), by (with_reducible repeat (first | apply Kd.R_alloc | apply Kd.R_drewN | apply Kd.R_drew)); exact HO_6.out, by repeat (first | (with_reducible first | exact HB.out | apply below_alloc | apply pw_below_drewN | apply below_drew1) | exact HB.out)⟩
            · rw [if_neg c11] at H
              exact absurd H (by simp)
          · rw [if_neg c10] at H
            exact absurd H (by simp)

end Go.Proofs.YtmoakgkoahjijaaGreatDoor.PPut

/- The contracts of package bits: wide, cut, Of. -/
set_option linter.unusedVariables false
set_option linter.unusedSimpArgs false
namespace Go.Proofs.YtmoakgkoahjijaaGreatDoor
open Go.RowKit

theorem wide_any (x : Int) (w : World) : Calls Tryz.prog 142 #[.int .i64 x] w fun e w' => e = .returned (.bool (decide (1 ≤ x ∧ x ≤ 128))) ∧ w = w' := by
  by_cases h1 : 1 ≤ x
  · by_cases h2 : x ≤ 128
    · rw [decide_eq_true ⟨h1, h2⟩]
      go_enter Tryz.func142, Tryz.ntmps142
      go_wp2
      go_ret
      exact ⟨rfl, rfl⟩
    · rw [decide_eq_false (fun h => h2 h.2)]
      go_enter Tryz.func142, Tryz.ntmps142
      go_wp2
      go_ret
      exact ⟨rfl, rfl⟩
  · rw [decide_eq_false (fun h => h1 h.1)]
    go_enter Tryz.func142, Tryz.ntmps142
    go_wp2
    go_ret
    exact ⟨rfl, rfl⟩

/-- A number of w bits, as Go's struct. -/
def bitsV (w hi lo : Int) : Value := .agg #[.int .i64 w, .int .u64 hi, .int .u64 lo]
/-- What is above w bits is cut off. -/
def cutHi (w : Nat) (hi : Int) : Int := if w < 64 then 0 else hi % (2 ^ (w - 64))
def cutLo (w : Nat) (lo : Int) : Int := if w < 64 then lo % (2 ^ w) else lo
theorem wraps_u64 (n : Int) (h₀ : 0 ≤ n) (h₁ : n < 2 ^ 64) : IntKind.u64.wrap n = n := by rw [IntKind.wrap_u64]; omega
theorem and_ones (i : Nat) (hi : i ≤ 64) (x : Int) (h0 : 0 ≤ x) (h1 : x ≤ 18446744073709551615) : bits .and .u64 x (IntKind.u64.wrap (IntKind.u64.wrap (2 ^ i) - 1)) = x % 2 ^ i := by
  have hp : (2:Int) ^ i = ((2 ^ i : Nat) : Int) := by simp
  have hpos : 0 < 2 ^ i := Nat.two_pow_pos i
  have e : IntKind.u64.wrap (IntKind.u64.wrap (2 ^ i) - 1) = 2 ^ i - 1 := by
    have hle : 2 ^ i ≤ 2 ^ 64 := Nat.pow_le_pow_right (by decide) hi
    rw [IntKind.wrap_u64, IntKind.wrap_u64, hp]
    omega
  rw [e]
  exact bits_mask .u64 64 (by decide) wraps_u64 i hi x h0 (by omega)

theorem cut_any (w : Nat) (hi lo : Int) (W : World) (h1 : 1 ≤ w) (h2 : w ≤ 128) (h3 : 0 ≤ hi ∧ hi ≤ 18446744073709551615) (h4 : 0 ≤ lo ∧ lo ≤ 18446744073709551615) :
    Calls Tryz.prog 143 #[.int .i64 (w : Int), .int .u64 hi, .int .u64 lo] W fun e W' => e = .returned (bitsV w (cutHi w hi) (cutLo w lo)) ∧ Below W.heap.size W W' := by
  have H3 : Aside (0 ≤ hi ∧ hi ≤ 18446744073709551615) := h3
  have H4 : Aside (0 ≤ lo ∧ lo ≤ 18446744073709551615) := h4
  clear h3 h4
  go_enter Tryz.func143, Tryz.ntmps143
  by_cases h : w < 64
  · go_wp2
    refine bodyPost_ret (results_cell_row rfl _ _ W.heap.size 79 _ (0,0) _ rfl (heap_alloc_new ..) Tryz.underlying79 rfl (by kernel_rfl)) rfl ⟨?_, (Below.refl _ _).alloc (Nat.le_refl _) _⟩
    rw [bitsV, cutHi, if_pos h, cutLo, if_pos h, ← and_ones w (by omega) lo H4.out.1 H4.out.2]
  · go_wp2
    refine bodyPost_ret (results_cell_row rfl _ _ W.heap.size 79 _ (0,0) _ rfl (heap_alloc_new ..) Tryz.underlying79 rfl (by kernel_rfl)) rfl ⟨?_, (Below.refl _ _).alloc (Nat.le_refl _) _⟩
    rw [bitsV, cutHi, if_neg h, cutLo, if_neg h, ← and_ones (w - 64) (by omega) hi H3.out.1 H3.out.2]
theorem of_any (w : Nat) (hi lo : Int) (W : World) (h1 : 1 ≤ w) (h2 : w ≤ 128) (h3 : 0 ≤ hi ∧ hi ≤ 18446744073709551615) (h4 : 0 ≤ lo ∧ lo ≤ 18446744073709551615) :
    Calls Tryz.prog 137 #[.int .i64 (w : Int), .int .u64 hi, .int .u64 lo] W fun e W' => e = .returned (.tuple #[bitsV w (cutHi w hi) (cutLo w lo), .int .i64 0]) ∧ Below W.heap.size W W' := by
  have H3 : Aside (0 ≤ hi ∧ hi ≤ 18446744073709551615) := h3
  have H4 : Aside (0 ≤ lo ∧ lo ≤ 18446744073709551615) := h4
  clear h3 h4
  generalize hA : cutHi w hi = a at *
  generalize hB : cutLo w lo = b at *
  have HA : Aside (cutHi w hi = a ∧ cutLo w lo = b) := ⟨hA, hB⟩
  clear hA hB
  have hd : decide (1 ≤ (w:Int) ∧ (w:Int) ≤ 128) = true := decide_eq_true ⟨by omega, by omega⟩
  have h0 := heap_alloc_new W (.cells #[.int .i64 0, .int .u64 0, .int .u64 0] 79 (0,0))
  have hB0 := (Below.refl W.heap.size W).alloc (Nat.le_refl _) (.cells #[.int .i64 0, .int .u64 0, .int .u64 0] 79 (0,0))
  go_enter Tryz.func137, Tryz.ntmps137
  go_wp2_with fail
  refine (wide_any _ _).mono ?_
  rintro e w' ⟨rfl, rfl⟩
  rw [hd]
  go_wp2_with fail
  refine (cut_any w hi lo _ h1 h2 H3.out H4.out).mono ?_
  rintro e w' ⟨rfl, hB1⟩
  rw [HA.out.1, HA.out.2]
  unfold bitsV
  have h5 := (hB1.block W.heap.size (by simp)).trans h0
  have c0 := cellOf h5 0
  have c1 := cellOf h5 1
  have c2 := cellOf h5 2
  have f0 := frozenOf h5 0
  have f1 := frozenOf h5 1
  have f2 := frozenOf h5 2
  clear h0
  simp only [List.getElem?_toArray, List.getElem?_cons_zero, List.getElem?_cons_succ] at c0 c1 c2
  go_wp2
  refine bodyPost_ret (results_row_tmp rfl _ _ W.heap.size 79 _ (0,0) _ rfl (set3 h5 _ _ _) Tryz.underlying79 rfl (by kernel_rfl)) rfl ⟨rfl, ?_⟩
  have hB2 : Below W.heap.size W w' := hB0.trans (hB1.mono (by simp))
  exact ((hB2.setCell (p := ⟨_, _, _⟩) (Nat.le_refl _) _).setCell (p := ⟨_, _, _⟩) (Nat.le_refl _) _).setCell (p := ⟨_, _, _⟩) (Nat.le_refl _) _

theorem of_bad (w hi lo : Int) (W : World) (h : w < 1 ∨ 128 < w) :
    Calls Tryz.prog 137 #[.int .i64 w, .int .u64 hi, .int .u64 lo] W fun e W' => e = .returned (.tuple #[bitsV 0 0 0, .int .i64 1]) ∧ Below W.heap.size W W' := by
  have hd : decide (1 ≤ w ∧ w ≤ 128) = false := decide_eq_false (by omega)
  have hB := (Below.refl W.heap.size W).alloc (Nat.le_refl _) (.cells #[.int .i64 0, .int .u64 0, .int .u64 0] 79 (0,0))
  go_enter Tryz.func137, Tryz.ntmps137
  go_wp2_with fail
  refine (wide_any _ _).mono ?_
  rintro e w' ⟨rfl, rfl⟩
  rw [hd]
  go_wp2
  exact bodyPost_ret (results_row_tmp rfl _ _ W.heap.size 79 _ (0,0) _ rfl (heap_alloc_new ..) Tryz.underlying79 rfl (by kernel_rfl)) rfl ⟨rfl, hB⟩
end Go.Proofs.YtmoakgkoahjijaaGreatDoor

/- The document's Of of a number of so many bits is what is not cut off. -/
set_option linter.unusedVariables false
set_option linter.unusedSimpArgs false
namespace Go.Proofs.YtmoakgkoahjijaaGreatDoor.PPut
open Go.RowKit Go.Proofs.YtmoakgkoahjijaaGreatDoorW.PrintWords Go.Proofs.YtmoakgkoahjijaaGreatDoorW.PrintMore

/-- Bit i of a number. -/
def bitAt (hi lo : Int) (i : Nat) : Bool := if i < 64 then lo / 2 ^ i % 2 == 1 else hi / 2 ^ (i - 64) % 2 == 1
def bitsOf (hi lo : Int) (n : Nat) : List Bool := (List.range n).map (bitAt hi lo)
theorem bitsOf_length (hi lo : Int) (n : Nat) : (bitsOf hi lo n).length = n := by simp [bitsOf]
theorem bitsOf_succ (hi lo : Int) (n : Nat) : bitsOf hi lo (n + 1) = bitsOf hi lo n ++ [bitAt hi lo n] := by simp [bitsOf, List.range_succ]
theorem bitsOf_get (hi lo : Int) (n i : Nat) (h : i < n) : rdOf false (bitsOf hi lo n) (i : Int) = bitAt hi lo i := by
  simp [rdOf, bitsOf, h]
theorem div_pow_range (x : Int) (i : Nat) (h0 : 0 ≤ x) (h1 : x ≤ 18446744073709551615) : 0 ≤ x / 2 ^ i ∧ x / 2 ^ i < 2 ^ 64 := by
  have hp : (0 : Int) < 2 ^ i := Int.pow_pos (by omega)
  refine ⟨Int.ediv_nonneg h0 (by omega), ?_⟩
  have h2 : x / 2 ^ i ≤ x := Int.ediv_le_self _ h0
  have h3 : (2 : Int) ^ 64 = 18446744073709551616 := rfl
  omega
theorem and_one (x : Int) (i : Nat) (hi : i ≤ 64) (h0 : 0 ≤ x) (h1 : x ≤ 18446744073709551615) : Go.bits .and .u64 (shr .u64 x (i : Int)) 1 = x / 2 ^ i % 2 := by
  have e : shr .u64 x (i : Int) = x / 2 ^ i := by
    unfold shr
    rw [Int.toNat_natCast, Nat.min_eq_left (by simpa [IntKind.bits] using hi)]
  obtain ⟨a, b⟩ := div_pow_range x i h0 h1
  rw [e]
  have := bits_mask .u64 64 (by decide) wraps_u64 1 (by decide) (x / 2 ^ i) a b
  simpa using this
theorem wrap_of_small (x : Int) (h0 : -9223372036854775808 ≤ x) (h1 : x ≤ 9223372036854775807) : wrap64 x = x := by
  unfold wrap64
  omega
theorem bits_l0 (hi lo : Int) (h1 : 0 ≤ hi ∧ hi ≤ 18446744073709551615) (h2 : 0 ≤ lo ∧ lo ≤ 18446744073709551615) (w : Nat) (hw : w ≤ 128) (d : Nat) : ∀ (i k : Nat), i + d = w → 2 * d + 2 ≤ k → pointsmanref01_Bits.l0 k (bitsOf hi lo i) (i : Int) (w : Int) hi lo = some (bitsOf hi lo w) := by
  induction d with
  | zero =>
    intro i k h hk
    obtain rfl : i = w := by omega
    obtain ⟨k, rfl⟩ : ∃ m, k = m + 1 + 1 := ⟨k - 2, by omega⟩
    rw [pointsmanref01_Bits.l0, if_neg (by omega), pointsmanref01_Bits.j1, if_neg (by simp)]
  | succ d ih =>
    intro i k h hk
    obtain ⟨k, rfl⟩ : ∃ m, k = m + 1 + 1 := ⟨k - 2, by omega⟩
    have hlen : (bitsOf hi lo i).length < 140737488355328 := by rw [bitsOf_length]; omega
    have hn : wrap64 ((i : Int) + 1) = ((i + 1 : Nat) : Int) := by rw [wrap_of_small _ (by omega) (by omega)]; omega
    have ih' := ih (i + 1) k (by omega) (by omega)
    rw [bitsOf_succ] at ih'
    rw [pointsmanref01_Bits.l0, if_pos (by omega), pointsmanref01_Bits.j1, if_pos (decide_eq_true (by omega)), hn]
    by_cases h64 : i < 64
    · rw [if_pos (by omega), if_pos (by omega), if_pos hlen, and_one lo i (by omega) h2.1 h2.2]
      have e : bitAt hi lo i = (lo / 2 ^ i % 2 == 1) := by unfold bitAt; rw [if_pos h64]
      rw [← e]
      exact ih'
    · have e64 : wrap64 ((i : Int) - 64) = ((i - 64 : Nat) : Int) := by rw [wrap_of_small _ (by omega) (by omega)]; omega
      rw [if_neg (by omega), e64, if_pos (by omega), if_pos hlen, and_one hi (i - 64) (by omega) h1.1 h1.2]
      have e : bitAt hi lo i = (hi / 2 ^ (i - 64) % 2 == 1) := by unfold bitAt; rw [if_neg h64]
      rw [← e]
      exact ih'
theorem ref_bits (hi lo : Int) (h1 : 0 ≤ hi ∧ hi ≤ 18446744073709551615) (h2 : 0 ≤ lo ∧ lo ≤ 18446744073709551615) (w : Nat) (hw : w ≤ 128) (k : Nat) (hk : 258 ≤ k) : pointsmanref01_Bits.f k (w : Int) hi lo = some (bitsOf hi lo w) := by
  unfold pointsmanref01_Bits.f
  exact bits_l0 hi lo h1 h2 w hw w 0 k (by omega) (by omega)

theorem shl_one (i : Nat) (hi : i < 64) : shl .u64 1 (i : Int) = 2 ^ i := by
  unfold shl
  rw [Int.toNat_natCast, Nat.min_eq_left (by simp [IntKind.bits]; omega), Int.one_mul]
  refine wraps_u64 _ (Int.pow_nonneg (by omega)) ?_
  have h : (2 : Nat) ^ i < 2 ^ 64 := Nat.pow_lt_pow_right (by decide) hi
  exact_mod_cast h
theorem mod_succ (x : Int) (i : Nat) (h0 : 0 ≤ x) : x % 2 ^ (i + 1) = x % 2 ^ i + (x / 2 ^ i % 2) * 2 ^ i := by
  have hp : (0 : Int) < 2 ^ i := Int.pow_pos (by omega)
  rw [Int.pow_succ]
  generalize (2 : Int) ^ i = p at *
  have h1 := Int.emod_add_mul_ediv x p
  have h2 := Int.emod_add_mul_ediv (x / p) 2
  have h3 : x / p / 2 = x / (p * 2) := Int.ediv_ediv_of_nonneg (by omega)
  have h4 := Int.emod_add_mul_ediv x (p * 2)
  rw [h3] at h2
  generalize x / (p * 2) = q at *
  generalize x / p % 2 = r at *
  generalize x / p = s at *
  subst h2
  have e1 : p * (r + 2 * q) = p * r + p * 2 * q := by rw [Int.mul_add, ← Int.mul_assoc]
  have e2 : r * p = p * r := Int.mul_comm _ _
  omega
theorem or_bit (x : Int) (i : Nat) (hi : i < 64) (h0 : 0 ≤ x) : Go.bits .or .u64 (x % 2 ^ i) (2 ^ i) = x % 2 ^ i + 2 ^ i := by
  have hp : (0 : Int) < 2 ^ i := Int.pow_pos (by omega)
  have hlt : (2 : Int) ^ i < 2 ^ 64 := by
    have h : (2 : Nat) ^ i < 2 ^ 64 := Nat.pow_lt_pow_right (by decide) hi
    exact_mod_cast h
  have ha0 : 0 ≤ x % 2 ^ i := Int.emod_nonneg _ (by omega)
  have ha1 : x % 2 ^ i < 2 ^ i := Int.emod_lt_of_pos _ hp
  generalize x % 2 ^ i = a at *
  obtain ⟨a, rfl⟩ := Int.eq_ofNat_of_zero_le ha0
  have e : (2 : Int) ^ i = ((2 ^ i : Nat) : Int) := by simp
  have ha2 : a < 2 ^ i := by rw [e] at ha1; omega
  have hi2 : 2 ^ i < 2 ^ 64 := Nat.pow_lt_pow_right (by decide) hi
  rw [e, (bits_nat .u64 64 (by decide) wraps_u64 a (2 ^ i) (by omega) hi2).2, Nat.or_comm]
  have h := Nat.two_pow_add_eq_or_of_lt ha2 1
  rw [Nat.mul_one] at h
  rw [← h]
  omega
theorem lo_step (lo : Int) (i : Nat) (h0 : 0 ≤ lo ∧ lo ≤ 18446744073709551615) (hi : i < 64) : (if bitAt 0 lo i = true then Go.bits .or .u64 (lo % 2 ^ i) (shl .u64 1 (i : Int)) else lo % 2 ^ i) = lo % 2 ^ (i + 1) := by
  rw [mod_succ lo i h0.1, shl_one i hi, or_bit lo i hi h0.1]
  have h2 : lo / 2 ^ i % 2 = 0 ∨ lo / 2 ^ i % 2 = 1 := by omega
  unfold bitAt
  rw [if_pos hi]
  rcases h2 with h | h <;> simp [h]
theorem pow64_mod (x : Int) (h0 : 0 ≤ x ∧ x ≤ 18446744073709551615) : x % 2 ^ 64 = x := by
  have h3 : (2 : Int) ^ 64 = 18446744073709551616 := rfl
  omega
/-- The two halves, as far as i bits. -/
def partLo (lo : Int) (i : Nat) : Int := if i < 64 then lo % 2 ^ i else lo
def partHi (hi : Int) (i : Nat) : Int := if i < 64 then 0 else hi % 2 ^ (i - 64)
theorem number_l0 (hi lo : Int) (h1 : 0 ≤ hi ∧ hi ≤ 18446744073709551615) (h2 : 0 ≤ lo ∧ lo ≤ 18446744073709551615) (w : Nat) (hw : w ≤ 128) (d : Nat) : ∀ (i k : Nat), i + d = w → d + 1 ≤ k →
    pointsmanref01_Number.l0 k (bitsOf hi lo w) (i : Int) (w : Int) (partHi hi i) (partLo lo i) = some ((w : Int), partHi hi w, partLo lo w) := by
  induction d with
  | zero =>
    intro i k h hk
    obtain rfl : i = w := by omega
    obtain ⟨k, rfl⟩ : ∃ m, k = m + 1 := ⟨k - 1, by omega⟩
    simp only [pointsmanref01_Number.l0]
    rw [bitsOf_length, if_neg (by omega)]
  | succ d ih =>
    intro i k h hk
    obtain ⟨k, rfl⟩ : ∃ m, k = m + 1 := ⟨k - 1, by omega⟩
    have hn : wrap64 ((i : Int) + 1) = ((i + 1 : Nat) : Int) := by rw [wrap_of_small _ (by omega) (by omega)]; omega
    have ih' := ih (i + 1) k (by omega) (by omega)
    simp only [pointsmanref01_Number.l0]
    rw [bitsOf_length, if_pos (by omega), if_pos (by omega), hn, bitsOf_get hi lo w i (by omega)]
    by_cases h64 : i < 64
    · have e1 : partHi hi (i + 1) = partHi hi i := by
        unfold partHi
        rw [if_pos h64]
        by_cases h : i + 1 < 64
        · rw [if_pos h]
        · rw [if_neg h, show i + 1 - 64 = 0 by omega]; simp
      have e2 : (if bitAt hi lo i = true then Go.bits .or .u64 (partLo lo i) (shl .u64 1 (i : Int)) else partLo lo i) = partLo lo (i + 1) := by
        have hb : bitAt hi lo i = bitAt 0 lo i := by unfold bitAt; rw [if_pos h64, if_pos h64]
        rw [hb]
        have := lo_step lo i h2 h64
        have e3 : partLo lo i = lo % 2 ^ i := by unfold partLo; rw [if_pos h64]
        have e4 : partLo lo (i + 1) = lo % 2 ^ (i + 1) := by
          unfold partLo
          by_cases h : i + 1 < 64
          · rw [if_pos h]
          · rw [if_neg h, show i + 1 = 64 by omega, pow64_mod lo h2]
        rw [e3, e4]; exact this
      rw [e1] at ih'
      rw [← e2] at ih'
      by_cases hb : bitAt hi lo i = true
      · rw [if_pos hb, if_pos (by omega)]
        rw [if_pos hb] at ih'
        exact ih'
      · rw [if_neg hb]
        rw [if_neg hb] at ih'
        exact ih'
    · have e64 : wrap64 ((i : Int) - 64) = ((i - 64 : Nat) : Int) := by rw [wrap_of_small _ (by omega) (by omega)]; omega
      have e1 : partLo lo (i + 1) = partLo lo i := by unfold partLo; rw [if_neg h64, if_neg (by omega)]
      have e2 : (if bitAt hi lo i = true then Go.bits .or .u64 (partHi hi i) (shl .u64 1 ((i - 64 : Nat) : Int)) else partHi hi i) = partHi hi (i + 1) := by
        have hb : bitAt hi lo i = bitAt 0 hi (i - 64) := by unfold bitAt; rw [if_neg h64, if_pos (by omega)]
        rw [hb]
        have := lo_step hi (i - 64) h1 (by omega)
        have e3 : partHi hi i = hi % 2 ^ (i - 64) := by unfold partHi; rw [if_neg h64]
        have e4 : partHi hi (i + 1) = hi % 2 ^ (i - 64 + 1) := by unfold partHi; rw [if_neg (by omega), show i + 1 - 64 = i - 64 + 1 by omega]
        rw [e3, e4]; exact this
      rw [e1] at ih'
      rw [← e2] at ih'
      by_cases hb : bitAt hi lo i = true
      · rw [if_pos hb, if_neg (by omega), e64, if_pos (by omega)]
        rw [if_pos hb] at ih'
        exact ih'
      · rw [if_neg hb]
        rw [if_neg hb] at ih'
        exact ih'
theorem ref_number (hi lo : Int) (h1 : 0 ≤ hi ∧ hi ≤ 18446744073709551615) (h2 : 0 ≤ lo ∧ lo ≤ 18446744073709551615) (w : Nat) (hw : w ≤ 128) (k : Nat) (hk : 258 ≤ k) : pointsmanref01_Number.f k (bitsOf hi lo w) = some ((w : Int), cutHi w hi, cutLo w lo) := by
  unfold pointsmanref01_Number.f
  rw [bitsOf_length]
  have h := number_l0 hi lo h1 h2 w hw w 0 k (by omega) (by omega)
  have e0 : partHi hi 0 = 0 := rfl
  have e1 : partLo lo 0 = 0 := by unfold partLo; simp
  rw [e0, e1] at h
  exact h
theorem ref_of (hi lo : Int) (h1 : 0 ≤ hi ∧ hi ≤ 18446744073709551615) (h2 : 0 ≤ lo ∧ lo ≤ 18446744073709551615) (w : Nat) (hw0 : 1 ≤ w) (hw : w ≤ 128) (k : Nat) (hk : 259 ≤ k) : pointsmanref01_Of.f k (w : Int) hi lo = some ((w : Int), cutHi w hi, cutLo w lo, 0) := by
  obtain ⟨k, rfl⟩ : ∃ m, k = m + 1 := ⟨k - 1, by omega⟩
  unfold pointsmanref01_Of.f
  rw [if_neg (by omega), decide_eq_false (by omega)]
  simp only [pointsmanref01_Of.j0]
  rw [if_neg (by decide), ref_bits hi lo h1 h2 w hw k (by omega)]
  simp only [Option.bind_some]
  rw [ref_number hi lo h1 h2 w hw k (by omega)]
  rfl
theorem ref_of_bad (hi lo w : Int) (h : w < 1 ∨ 128 < w) (k : Nat) (hk : 1 ≤ k) : pointsmanref01_Of.f k w hi lo = some (0, 0, 0, 1) := by
  obtain ⟨k, rfl⟩ : ∃ m, k = m + 1 := ⟨k - 1, by omega⟩
  unfold pointsmanref01_Of.f
  by_cases h1 : w < 1
  · rw [if_pos h1]; simp [pointsmanref01_Of.j0]
  · rw [if_neg h1, decide_eq_true (by omega)]; simp [pointsmanref01_Of.j0]
end Go.Proofs.YtmoakgkoahjijaaGreatDoor.PPut

/- A range over a function whose iterator reads memory of its own and of its caller's: what a round keeps. -/
set_option linter.unusedVariables false
set_option linter.unusedSimpArgs false
namespace Go.Proofs.YtmoakgkoahjijaaGreatDoor
open Go.RowKit

/-- Behind a round all cells that lay there and are none of F's lie as they lay. -/
structure KeepC (F : Nat → Prop) (W W' : World) : Prop where
  os : W'.os = W.os
  tape : W'.tape = W.tape
  output : W'.output = W.output
  size : W.heap.size ≤ W'.heap.size
  block : ∀ (k : Nat) (cs : Array Value) (t : TypeId) (fr : Nat × Nat), W.heap[k]? = some (.cells cs t fr) → ¬ F k → W'.heap[k]? = some (.cells cs t fr)
theorem KeepC.refl (F : Nat → Prop) (W : World) : KeepC F W W := ⟨rfl, rfl, rfl, Nat.le_refl _, fun _ _ _ _ h _ => h⟩
theorem KeepC.trans {F : Nat → Prop} {A B C : World} (h : KeepC F A B) (k : KeepC F B C) : KeepC F A C :=
  ⟨k.os.trans h.os, k.tape.trans h.tape, k.output.trans h.output, Nat.le_trans h.size k.size, fun i cs t fr hi hF => k.block i cs t fr (h.block i cs t fr hi hF) hF⟩
theorem KeepC.ofFoot {F : Nat → Prop} {A B : World} (h : Foot F A B) : KeepC F A B :=
  ⟨h.os, h.tape, h.output, h.size, fun i cs t fr hi hF => (h.block i (Array.getElem?_eq_some_iff.1 hi).1 hF).trans hi⟩
/-- The law's own book-keeping. -/
theorem KeepC.putObj {F : Nat → Prop} (W : World) (l : Nat) (o o' : Obj) (h : W.heap[l]? = some o) (hc : o.isCells = false) : KeepC F W (W.putObj l o') :=
  ⟨rfl, rfl, rfl, by simp, fun k cs t fr hk hF => by
    rw [World.putObj_heap_other (by rintro rfl; rw [hk] at h; cases h; cases hc)]; exact hk⟩
theorem keepC_b (F : Nat → Prop) (w : World) (W : World) (l : Nat) (o o' : Obj) (_ : w.heap.size ≤ l) (h : W.heap[l]? = some o) (hc : o.isCells = false) (_ : o.isWalk = false) : KeepC F W (W.putObj l o') := KeepC.putObj W l o o' h hc
theorem KeepC.cell {F : Nat → Prop} {A B : World} (h : KeepC F A B) {p : Addr} {v : Value} (hc : A.cell? p = some v) (hF : ¬ F p.block) : B.cell? p = some v := by
  have hh : ∃ cs t fr, A.heap[p.block]? = some (.cells cs t fr) := by
    rcases hh : A.heap[p.block]? with _ | o
    · simp [World.cell?, hh] at hc
    · cases o with
      | cells cs t fr => exact ⟨cs, t, fr, rfl⟩
      | _ => simp [World.cell?, hh] at hc
  obtain ⟨cs, t, fr, hk⟩ := hh
  exact (World.cell?_of_block (w := A) ((h.block _ cs t fr hk hF).trans hk.symm)).trans hc
theorem KeepC.row {F : Nat → Prop} {A B : World} (h : KeepC F A B) {base : Nat} {e : TypeId} {size : Nat} {v : Value} {n : Nat} {xs : List Value} (ho : A.ownsRow base e size v n xs) (hF : ∀ k, v.ownBlock = some k → ¬ F k) : B.ownsRow base e size v n xs := by
  obtain ⟨h1, h2⟩ := ho
  refine ⟨h1, ?_⟩
  rcases h2 with h2 | ⟨g, cap, cur, hv, hg, hh, r⟩
  · exact .inl h2
  · exact .inr ⟨g, cap, cur, hv, hg, h.block _ _ _ _ hh (hF g (by rw [hv]; rfl)), r⟩
theorem KeepC.alloc {F : Nat → Prop} {A B : World} (h : KeepC F A B) (o : Obj) : KeepC F A (B.alloc o) := h.trans (KeepC.ofFoot ((Foot.refl F B).alloc o))
theorem KeepC.drew {F : Nat → Prop} {A B : World} (h : KeepC F A B) : KeepC F A B.drew := h.trans (KeepC.ofFoot ((Foot.refl F B).drew))
theorem KeepC.drewN {F : Nat → Prop} {A B : World} (h : KeepC F A B) (n : Nat) : KeepC F A (B.drewN n) := h.trans (KeepC.ofFoot ((Foot.refl F B).drewN n))
theorem KeepC.mono {F G : Nat → Prop} {A B : World} (h : KeepC F A B) (hG : ∀ k, F k → G k) : KeepC G A B := ⟨h.os, h.tape, h.output, h.size, fun k cs t fr hk hF => h.block k cs t fr hk (fun f => hF (hG k f))⟩

variable {F : Fence} {n : Nat} {P : Program}
/-- The law of the range, the frame of a round being found by the walk itself. -/
theorem range_own {α : Type} {g : Operand} {ps : Array Tmp} {assign body : Code} {Q : Exit → Act → World → Prop} {a : Act} {w : World}
    (hro : F.round = none) (h1 : 1 ≤ n) {gf : Nat} {lb : Array Value} (hg : a.eval g = .func (.func gf) #[] lb) (hFg : F.fn gf) (eg : ∀ args w, (callFunc gf args).run P w = .ok (.enter gf args) w)
    {encs : α → Array Value} {Kp : World → World → Prop} {S Sp : List α → Prop} {N : Nat} {w0 : World} (hseq : SeqStopsK F (n - 1) P gf lb encs Kp S Sp N w0)
    (hKt : ∀ {A B C : World}, Kp A B → Kp B C → Kp A C) (hKb : ∀ (W : World) (l : Nat) (o o' : Obj), w.heap.size ≤ l → W.heap[l]? = some o → o.isCells = false → o.isWalk = false → Kp W (W.putObj l o')) (hb0 : Below w0.heap.size w0 w) (hps : ∀ x, (encs x).size = ps.size)
    (I : List α → World → Prop) (Ix : Code → List α → World → Prop) (hI : OwnFrom w.heap.size I) (hIx : ∀ c, OwnFrom w.heap.size (Ix c)) (h0 : I [] w)
    (hround : ∀ x : α, ∃ a1 : Act, (∀ (l : Nat) (W : World) (K : Act → World → Prop), K a1 W →
        assign.wpIn (F.inRound l) (n - 1 - 1) P (Exit.then K (fun _ _ _ => False)) { tmps := (ps.zip (encs x)).foldl (fun t (p, v) => t.setIfInBounds p v) a.tmps, defers := [] } W) ∧
      ∀ (l : Nat) (pre : List α) (W : World), I pre W → pre.length < N → body.wpIn (F.inRound l) (n - 1 - 1) P (ownPostK Kp I Ix (pre ++ [x]) W) a1 W)
    (hdone : ∀ (D : Nat) (xs : List α) (W : World), w.heap.size ≤ D → S xs → I xs W → W.heap[D]? = some (.deferred (some [])) → Q .normal { a with defers := { target := .collected D, args := #[] } :: a.defers } W)
    (hstop : ∀ (D : Nat) (c : Code) (pre : List α) (W : World), w.heap.size ≤ D → Sp pre → Ix c pre W → W.heap[D]? = some (.deferred (some [])) → c.wpIn F n P Q { a with defers := { target := .collected D, args := #[] } :: a.defers } W) :
    (Code.rangeFunc g ps assign body).wpIn F n P Q a w :=
  wpIn_rangeFunc_ownF hro h1 hg hFg eg hseq (fun h k => hKt h k) hKb hb0 hps I Ix hI hIx h0 (fun x => Classical.choose (hround x))
    (fun l x W K hK => (Classical.choose_spec (hround x)).1 l W K hK) (fun l pre x W hi hl => (Classical.choose_spec (hround x)).2 l pre W hi hl) hdone hstop
end Go.Proofs.YtmoakgkoahjijaaGreatDoor

/- Bits of bytes and of numbers, in plain Lean: no program in sight. -/
set_option linter.unusedVariables false
set_option linter.unusedSimpArgs false
namespace Go.Proofs.YtmoakgkoahjijaaGreatDoor.PkMath

/-- The number that bits tell, the highest one first. -/
def numOf (l : List Bool) : Nat := l.foldl (fun v b => 2 * v + b.toNat) 0
theorem numOf_from (l : List Bool) : ∀ a, l.foldl (fun v b => 2 * v + b.toNat) a = a * 2 ^ l.length + numOf l := by
  induction l with
  | nil => intro a; simp [numOf]
  | cons b l ih =>
    intro a
    have e : numOf (b :: l) = b.toNat * 2 ^ l.length + numOf l := by
      unfold numOf
      rw [List.foldl_cons, ih]
      simp [numOf]
    rw [List.foldl_cons, ih, e, List.length_cons, Nat.pow_succ, Nat.add_mul, Nat.mul_assoc 2 a, Nat.mul_comm 2 (a * _), Nat.mul_assoc a, Nat.add_assoc]
theorem numOf_nil : numOf [] = 0 := rfl
theorem numOf_append (l m : List Bool) : numOf (l ++ m) = numOf l * 2 ^ m.length + numOf m := by
  show (l ++ m).foldl _ 0 = _
  rw [List.foldl_append]
  exact numOf_from m _
theorem numOf_lt (l : List Bool) : numOf l < 2 ^ l.length := by
  induction l with
  | nil => decide
  | cons b l ih =>
    have := numOf_append [b] l
    rw [List.singleton_append] at this
    rw [this, List.length_cons, Nat.pow_succ]
    have hb : numOf [b] ≤ 1 := by cases b <;> decide
    have : numOf [b] * 2 ^ l.length ≤ 1 * 2 ^ l.length := Nat.mul_le_mul_right _ hb
    omega
/-- The w bits of a number, the highest one first. -/
def bitsOfNum (w v : Nat) : List Bool := (List.range w).map fun i => v.testBit (w - 1 - i)
theorem bitsOfNum_length (w v : Nat) : (bitsOfNum w v).length = w := by simp [bitsOfNum]
theorem bitsOfNum_zero (v : Nat) : bitsOfNum 0 v = [] := rfl
theorem bitsOfNum_succ (w v : Nat) : bitsOfNum (w + 1) v = bitsOfNum w (v / 2) ++ [v.testBit 0] := by
  unfold bitsOfNum
  rw [List.range_succ, List.map_append]
  congr 1
  · apply List.map_congr_left
    intro i hi
    have := List.mem_range.1 hi
    rw [← Nat.testBit_succ]
    congr 1
    omega
  · simp
theorem bitsOfNum_cons (w v : Nat) : bitsOfNum (w + 1) v = v.testBit w :: bitsOfNum w v := by
  unfold bitsOfNum
  rw [List.range_succ_eq_map, List.map_cons, List.map_map]
  congr 1
  apply List.map_congr_left
  intro i hi
  show v.testBit (w + 1 - 1 - (i + 1)) = v.testBit (w - 1 - i)
  congr 1
  omega
theorem numOf_bits (w : Nat) : ∀ v, numOf (bitsOfNum w v) = v % 2 ^ w := by
  induction w with
  | zero => intro v; rw [bitsOfNum_zero]; simp [numOf, Nat.mod_one]
  | succ w ih =>
    intro v
    rw [bitsOfNum_succ, numOf_append, ih]
    have hb : numOf [v.testBit 0] = v % 2 := by
      rw [Nat.testBit_zero]
      by_cases h : v % 2 = 1
      · rw [h]; decide
      · have : v % 2 = 0 := by omega
        rw [this]; decide
    rw [hb]
    show v / 2 % 2 ^ w * 2 ^ 1 + v % 2 = v % 2 ^ (w + 1)
    rw [show (2 : Nat) ^ (w + 1) = 2 * 2 ^ w by rw [Nat.pow_succ, Nat.mul_comm], Nat.mod_mul, show (2 : Nat) ^ 1 = 2 from rfl]
    omega
theorem numOf_bits_lt (w v : Nat) (h : v < 2 ^ w) : numOf (bitsOfNum w v) = v := by rw [numOf_bits, Nat.mod_eq_of_lt h]
theorem numOf_cons (b : Bool) (l : List Bool) : numOf (b :: l) = 2 ^ l.length * b.toNat + numOf l := by
  have := numOf_append [b] l
  rw [List.singleton_append] at this
  rw [this, Nat.mul_comm]
  cases b <;> rfl
theorem bitsOfNum_getD (w v i : Nat) (h : i < w) : (bitsOfNum w v).getD i false = v.testBit (w - 1 - i) := by
  unfold bitsOfNum
  rw [List.getD_eq_getElem?_getD, List.getElem?_map, List.getElem?_range h]
  rfl
theorem bits_numOf : ∀ (l : List Bool), bitsOfNum l.length (numOf l) = l := by
  intro l
  induction l with
  | nil => rfl
  | cons b l ih =>
    have hN := numOf_lt l
    rw [List.length_cons, bitsOfNum_cons, numOf_cons]
    congr 1
    · rw [Nat.testBit_two_pow_mul_add _ hN, if_neg (by omega), Nat.sub_self]
      cases b <;> rfl
    · conv => rhs; rw [← ih]
      unfold bitsOfNum
      apply List.map_congr_left
      intro i hi
      have hi := List.mem_range.1 hi
      rw [Nat.testBit_two_pow_mul_add _ hN, if_pos (by omega)]

/-- The bits of bytes. -/
def byteBits (x : Int) : List Bool := bitsOfNum 8 x.toNat
def bitsL (zs : List Int) : List Bool := zs.flatMap byteBits
theorem byteBits_length (x : Int) : (byteBits x).length = 8 := bitsOfNum_length 8 _
theorem bitsL_length (zs : List Int) : (bitsL zs).length = 8 * zs.length := by
  induction zs with
  | nil => rfl
  | cons x zs ih => unfold bitsL at *; rw [List.flatMap_cons, List.length_append, ih, byteBits_length, List.length_cons]; omega
theorem bitsL_getD (zs : List Int) : ∀ q, (bitsL zs).getD q false = if q < 8 * zs.length then (zs.getD (q / 8) 0).toNat.testBit (7 - q % 8) else false := by
  induction zs with
  | nil => intro q; simp [bitsL]
  | cons x zs ih =>
    intro q
    unfold bitsL at *
    rw [List.flatMap_cons, List.getD_eq_getElem?_getD]
    by_cases hq : q < 8
    · rw [List.getElem?_append_left (by rw [byteBits_length]; exact hq), if_pos (by simp; omega)]
      have e1 : q / 8 = 0 := by omega
      have e2 : q % 8 = q := by omega
      rw [e1, e2]
      unfold byteBits bitsOfNum
      rw [List.getElem?_map, List.getElem?_range hq]
      show x.toNat.testBit (8 - 1 - q) = _
      simp
    · rw [List.getElem?_append_right (by rw [byteBits_length]; omega), byteBits_length, ← List.getD_eq_getElem?_getD, ih (q - 8)]
      have e1 : q / 8 = (q - 8) / 8 + 1 := by omega
      have e2 : q % 8 = (q - 8) % 8 := by omega
      by_cases h1 : q - 8 < 8 * zs.length
      · rw [if_pos h1, if_pos (by simp; omega), e1, e2, List.getD_cons_succ]
      · rw [if_neg h1, if_neg (by simp; omega)]

/-- A window of bits. -/
def win (l : List Bool) (at_ w : Nat) : List Bool := (l.drop at_).take w
theorem win_length (l : List Bool) (at_ w : Nat) (h : at_ + w ≤ l.length) : (win l at_ w).length = w := by unfold win; simp; omega
theorem win_add (l : List Bool) (at_ a k : Nat) : win l at_ (a + k) = win l at_ a ++ win l (at_ + a) k := by
  unfold win
  rw [List.take_add, List.drop_drop]
theorem win_getD (l : List Bool) (at_ w i : Nat) (h : i < w) : (win l at_ w).getD i false = l.getD (at_ + i) false := by
  unfold win
  rw [List.getD_eq_getElem?_getD, List.getElem?_take, if_pos h, List.getElem?_drop, List.getD_eq_getElem?_getD]
theorem list_ext_getD {l m : List Bool} (hl : l.length = m.length) (h : ∀ i, i < l.length → l.getD i false = m.getD i false) : l = m := by
  apply List.ext_getElem hl
  intro i h1 h2
  have := h i h1
  rw [List.getD_eq_getElem?_getD, List.getD_eq_getElem?_getD, List.getElem?_eq_getElem h1, List.getElem?_eq_getElem h2] at this
  exact this
/-- Bits within one byte. -/
theorem win_byte (zs : List Int) (at_ k : Nat) (hk : at_ % 8 + k ≤ 8) (hat : at_ + k ≤ 8 * zs.length) (hk0 : 0 < k) : win (bitsL zs) at_ k = bitsOfNum k ((zs.getD (at_ / 8) 0).toNat / 2 ^ (8 - at_ % 8 - k)) := by
  apply list_ext_getD
  · rw [win_length _ _ _ (by rw [bitsL_length]; exact hat), bitsOfNum_length]
  · intro i hi
    rw [win_length _ _ _ (by rw [bitsL_length]; exact hat)] at hi
    rw [win_getD _ _ _ _ hi, bitsL_getD, if_pos (by omega)]
    rw [bitsOfNum_getD _ _ _ hi, Nat.testBit_div_two_pow]
    have e1 : (at_ + i) / 8 = at_ / 8 := by omega
    have e2 : 7 - (at_ + i) % 8 = k - 1 - i + (8 - at_ % 8 - k) := by omega
    rw [e1, e2]
theorem numOf_win_byte (zs : List Int) (at_ k : Nat) (hk : at_ % 8 + k ≤ 8) (hat : at_ + k ≤ 8 * zs.length) (hk0 : 0 < k) : numOf (win (bitsL zs) at_ k) = (zs.getD (at_ / 8) 0).toNat / 2 ^ (8 - at_ % 8 - k) % 2 ^ k := by
  rw [win_byte zs at_ k hk hat hk0, numOf_bits]

/-- Bits, packed as bytes. -/
def byteAt (l : List Bool) (j : Nat) : List Bool := (List.range 8).map fun r => l.getD (8 * j + r) false
theorem byteAt_length (l : List Bool) (j : Nat) : (byteAt l j).length = 8 := by simp [byteAt]
theorem byteAt_getD (l : List Bool) (j r : Nat) (h : r < 8) : (byteAt l j).getD r false = l.getD (8 * j + r) false := by
  unfold byteAt
  rw [List.getD_eq_getElem?_getD, List.getElem?_map, List.getElem?_range h]
  rfl
def packByte (l : List Bool) (j : Nat) : Nat := numOf (byteAt l j)
def pack (l : List Bool) (m : Nat) : List Int := (List.range m).map fun j => (packByte l j : Int)
theorem pack_length (l : List Bool) (m : Nat) : (pack l m).length = m := by simp [pack]
theorem pack_getD (l : List Bool) (m j : Nat) (h : j < m) : (pack l m).getD j 0 = (packByte l j : Int) := by
  unfold pack
  rw [List.getD_eq_getElem?_getD, List.getElem?_map, List.getElem?_range h]
  rfl
theorem packByte_lt (l : List Bool) (j : Nat) : packByte l j < 256 := by
  have h := numOf_lt (byteAt l j)
  rw [byteAt_length] at h
  exact h
theorem packByte_bits (l : List Bool) (j : Nat) : bitsOfNum 8 (packByte l j) = byteAt l j := by
  have h := bits_numOf (byteAt l j)
  rw [byteAt_length] at h
  exact h
theorem packByte_test (l : List Bool) (j r : Nat) (h : r < 8) : (packByte l j).testBit (7 - r) = l.getD (8 * j + r) false := by
  rw [← byteAt_getD l j r h, ← packByte_bits, bitsOfNum_getD _ _ _ h]
theorem bitsL_pack (l : List Bool) (m q : Nat) (hm : l.length ≤ 8 * m) : (bitsL (pack l m)).getD q false = l.getD q false := by
  rw [bitsL_getD, pack_length]
  by_cases hq : q < 8 * m
  · rw [if_pos hq, pack_getD _ _ _ (by omega), Int.toNat_natCast, packByte_test _ _ _ (by omega)]
    congr 1
    omega
  · rw [if_neg hq, List.getD_eq_getElem?_getD, List.getElem?_eq_none (by omega)]
    rfl
theorem pack_bitsL (zs : List Int) (h : ∀ j, 0 ≤ zs.getD j 0 ∧ zs.getD j 0 ≤ 255) : pack (bitsL zs) zs.length = zs := by
  apply List.ext_getElem (by rw [pack_length])
  intro j h1 h2
  have e : (pack (bitsL zs) zs.length).getD j 0 = zs.getD j 0 := by
    rw [pack_getD _ _ _ h2]
    have hx := h j
    have hb : packByte (bitsL zs) j = (zs.getD j 0).toNat := by
      have key : byteAt (bitsL zs) j = bitsOfNum 8 (zs.getD j 0).toNat := by
        apply list_ext_getD (by rw [byteAt_length, bitsOfNum_length])
        intro r hr
        rw [byteAt_length] at hr
        rw [byteAt_getD _ _ _ hr, bitsOfNum_getD _ _ _ hr, bitsL_getD, if_pos (by omega), show (8 * j + r) / 8 = j by omega, show (8 * j + r) % 8 = r by omega]
      unfold packByte
      rw [key, numOf_bits, Nat.mod_eq_of_lt (by omega)]
    rw [hb]
    omega
  rw [List.getD_eq_getElem?_getD, List.getD_eq_getElem?_getD, List.getElem?_eq_getElem h1, List.getElem?_eq_getElem h2] at e
  exact e
theorem getD_snoc (l : List Bool) (b : Bool) (q : Nat) : (l ++ [b]).getD q false = if q = l.length then b else l.getD q false := by
  rw [List.getD_eq_getElem?_getD]
  by_cases h1 : q < l.length
  · rw [List.getElem?_append_left h1, if_neg (by omega), List.getD_eq_getElem?_getD]
  · rw [List.getElem?_append_right (by omega)]
    by_cases h2 : q = l.length
    · rw [if_pos h2, h2]; simp
    · rw [if_neg h2, List.getD_eq_getElem?_getD, List.getElem?_eq_none (by omega : l.length ≤ q), List.getElem?_eq_none (by simp; omega)]
theorem getD_past (l : List Bool) (q : Nat) (h : l.length ≤ q) : l.getD q false = false := by
  rw [List.getD_eq_getElem?_getD, List.getElem?_eq_none h]; rfl
/-- A nought is nothing more. -/
theorem packByte_false (l : List Bool) (j : Nat) : packByte (l ++ [false]) j = packByte l j := by
  unfold packByte
  congr 1
  apply list_ext_getD (by rw [byteAt_length, byteAt_length])
  intro r hr
  rw [byteAt_length] at hr
  rw [byteAt_getD _ _ _ hr, byteAt_getD _ _ _ hr, getD_snoc]
  split
  · rename_i h; rw [h, getD_past _ _ (Nat.le_refl _)]
  · rfl
/-- A byte that the next bit is not in stays. -/
theorem packByte_other (l : List Bool) (b : Bool) (j : Nat) (hj : j ≠ l.length / 8) : packByte (l ++ [b]) j = packByte l j := by
  unfold packByte
  congr 1
  apply list_ext_getD (by rw [byteAt_length, byteAt_length])
  intro r hr
  rw [byteAt_length] at hr
  rw [byteAt_getD _ _ _ hr, byteAt_getD _ _ _ hr, getD_snoc, if_neg (by omega)]
/-- The byte that the next bit is in: the bit is or'ed to it. -/
theorem packByte_or (l : List Bool) : packByte (l ++ [true]) (l.length / 8) = packByte l (l.length / 8) ||| 2 ^ (7 - l.length % 8) := by
  apply Nat.eq_of_testBit_eq
  intro i
  rw [Nat.testBit_or, Nat.testBit_two_pow]
  by_cases hi : i < 8
  · have e : i = 7 - (7 - i) := by omega
    rw [e, packByte_test _ _ _ (by omega), packByte_test _ _ _ (by omega), getD_snoc]
    split
    · rename_i h
      rw [getD_past _ _ (by omega), decide_eq_true (by omega)]; rfl
    · rename_i h
      rw [decide_eq_false (by omega), Bool.or_false]
  · have h8 : 256 ≤ 2 ^ i := Nat.pow_le_pow_right (n := 2) (i := 8) (by decide) (by omega)
    have h1 : packByte (l ++ [true]) (l.length / 8) < 2 ^ i := Nat.lt_of_lt_of_le (packByte_lt _ _) h8
    have h2 : packByte l (l.length / 8) < 2 ^ i := Nat.lt_of_lt_of_le (packByte_lt _ _) h8
    rw [Nat.testBit_lt_two_pow h1, Nat.testBit_lt_two_pow h2, decide_eq_false (by omega)]
    rfl
end Go.Proofs.YtmoakgkoahjijaaGreatDoor.PkMath

/- Numbers of bits as they lie in slices, and as they come in. -/
set_option linter.unusedVariables false
set_option linter.unusedSimpArgs false
namespace Go.Proofs.YtmoakgkoahjijaaGreatDoor
open Go.RowKit

/-- A number of bits, as it is told. -/
structure Num where
  W : Int
  Hi : Int
  Lo : Int
instance : Inhabited Num := ⟨⟨0, 0, 0⟩⟩
def Num.wf (x : Num) : Prop := (-9223372036854775808 ≤ x.W ∧ x.W ≤ 9223372036854775807) ∧ (0 ≤ x.Hi ∧ x.Hi ≤ 18446744073709551615) ∧ (0 ≤ x.Lo ∧ x.Lo ≤ 18446744073709551615)
def Num.v (x : Num) : Value := .agg #[.int .i64 x.W, .int .u64 x.Hi, .int .u64 x.Lo]
def zeroNum : Num := ⟨0, 0, 0⟩

/-- A slice of numbers that is read. -/
def ReadsNums (w : World) (A : Option Addr) (n : Nat) (xs : List Num) : Prop :=
  xs.length = n ∧ n ≤ 9223372036854775807 ∧ (0 < n → ∃ b off, A = some ⟨b, off, none⟩ ∧ b < w.heap.size ∧ ∀ j, j < n → w.cell? ⟨b, off + j * 3, none⟩ = some (.int .i64 (xs.getD j zeroNum).W) ∧ w.cell? ⟨b, off + (j * 3 + 1), none⟩ = some (.int .u64 (xs.getD j zeroNum).Hi) ∧ w.cell? ⟨b, off + (j * 3 + 2), none⟩ = some (.int .u64 (xs.getD j zeroNum).Lo))
theorem ReadsNums.below {w w' : World} {A : Option Addr} {n : Nat} {xs : List Num} (h : ReadsNums w A n xs) (hb : Below w.heap.size w w') : ReadsNums w' A n xs := by
  refine ⟨h.1, h.2.1, fun hn => ?_⟩
  obtain ⟨b, off, h1, h2, h3⟩ := h.2.2 hn
  refine ⟨b, off, h1, Nat.lt_of_lt_of_le h2 hb.size, fun j hj => ?_⟩
  obtain ⟨c0, c1, c2⟩ := h3 j hj
  exact ⟨(hb.cell (p := ⟨_, _, _⟩) h2).trans c0, (hb.cell (p := ⟨_, _, _⟩) h2).trans c1, (hb.cell (p := ⟨_, _, _⟩) h2).trans c2⟩

section
variable {H : Type} {enc : TypeId × Value → H} {w : World} {cs : List Value}
set_option maxRecDepth 100000 in
/-- One number, as it comes in. -/
theorem Came.num (h : Came enc Tryz.prog w 79 cs) : ∃ x : Num, cs = [.int .i64 x.W, .int .u64 x.Hi, .int .u64 x.Lo] ∧ x.wf := by
  obtain ⟨hl, hf⟩ := h.struct Tryz.underlying79
  have h3 : Tryz.prog.cellsOf 79 = 3 := by kernel_rfl
  have hi : Tryz.prog.cellsOf 3 = 1 := by kernel_rfl
  have hu : Tryz.prog.cellsOf 77 = 1 := by kernel_rfl
  rw [h3] at hl
  have f0 : Came enc Tryz.prog w 3 ((cs.drop 0).take (Tryz.prog.cellsOf 3)) := hf 0 _ rfl
  have f1 : Came enc Tryz.prog w 77 ((cs.drop 1).take (Tryz.prog.cellsOf 77)) := hf 1 _ rfl
  have f2 : Came enc Tryz.prog w 77 ((cs.drop 2).take (Tryz.prog.cellsOf 77)) := hf 2 _ rfl
  clear hf
  match cs, hl with
  | [a, b, c], _ =>
    rw [hi] at f0
    rw [hu] at f1 f2
    obtain ⟨x, hx, wx⟩ := f0.int Tryz.underlying3
    obtain ⟨y, hy, wy⟩ := f1.int Tryz.underlying77
    obtain ⟨z, hz, wz⟩ := f2.int Tryz.underlying77
    simp at hx hy hz
    exact ⟨⟨x, y, z⟩, by rw [hx, hy, hz], bd_i64 wx, bd_u64 wy, bd_u64 wz⟩
/-- A slice of numbers, as it comes in. -/
theorem Came.nums {t : TypeId} (ht : Tryz.prog.underlying t = some (.slice 79)) (h : Came enc Tryz.prog w t cs) :
    ∃ A n c xs, cs = [.slice A n c] ∧ n ≤ c ∧ c ≤ 9223372036854775807 ∧ n * Tryz.prog.bytesOf 79 ≤ 140737488351232 ∧ ReadsNums w A n xs ∧ ∀ j, j < n → (xs.getD j zeroNum).wf := by
  obtain ⟨A, n, c, h1, h2, h3, h4, h5, h6, h7⟩ := h.slice ht
  unfold maxLen at h3
  have h3c : Tryz.prog.cellsOf 79 = 3 := by kernel_rfl
  rw [h3c] at h7
  cases A with
  | none =>
    obtain ⟨rfl, rfl⟩ := h6 rfl
    exact ⟨none, 0, 0, [], h1, h2, by omega, h4, ⟨rfl, by omega, fun h => by omega⟩, fun j hj => by omega⟩
  | some ad =>
    obtain ⟨xs, hl, hx⟩ := list_of zeroNum n (p := fun i x => (w.cell? ((ad.add (i * 3)).add 0) = some (.int .i64 x.W) ∧ w.cell? ((ad.add (i * 3)).add 1) = some (.int .u64 x.Hi) ∧ w.cell? ((ad.add (i * 3)).add 2) = some (.int .u64 x.Lo)) ∧ x.wf) (fun i hi => by
      obtain ⟨cs', h8, h9⟩ := h7 ad rfl i hi
      obtain ⟨_, _, hc⟩ := World.cells?_some h8
      obtain ⟨x, hx, hw⟩ := h9.num
      rw [hx] at hc
      exact ⟨x, ⟨hc 0 (by omega), hc 1 (by omega), hc 2 (by omega)⟩, hw⟩)
    refine ⟨some ad, n, c, xs, h1, h2, by omega, h4, ⟨hl, by omega, fun hn => ?_⟩, fun j hj => (hx j hj).2⟩
    obtain ⟨b, off, spot⟩ := ad
    have h0 := (hx 0 hn).1.1
    have hs : spot = none := by simpa [Addr.add] using World.cell?_spot h0
    subst hs
    refine ⟨b, off, rfl, ?_, fun j hj => ?_⟩
    · have := World.block_lt_of_cell? w _ h0
      rwa [add_block, add_block] at this
    · have := (hx j hj).1
      rw [Addr.add_lit, Addr.add_lit, Addr.add_lit, Addr.add_lit] at this
      simpa [Nat.add_assoc] using this
end
end Go.Proofs.YtmoakgkoahjijaaGreatDoor

/- The cursor: New, gone, left, At, Left, Rest. -/
set_option linter.unusedVariables false
set_option linter.unusedSimpArgs false
namespace Go.Proofs.YtmoakgkoahjijaaGreatDoor
open Go.RowKit PkMath

theorem infoByte : (Tryz.prog.info? 5).map (fun i => (i.zero, i.size, i.bytes)) = some (some (.int .u8 0), 1, 1) := by kernel_rfl

/-- A cursor: its block, its bytes (memory of its own), how many bits were taken. -/
def CurAt (base : Nat) (w : World) (g : Nat) (zs : List Int) (at_ : Nat) : Prop :=
  base ≤ g ∧ zs.length ≤ 65536 ∧ at_ ≤ 8 * zs.length ∧ ∃ A c, w.heap[g]? = some (.cells #[.slice A zs.length c, .int .i64 at_, .bool true] 76 (0, 0)) ∧ w.ownsRow base 5 1 (.slice A zs.length c) zs.length (nums .u8 zs) ∧ (∀ ad, A = some ad → ad.block ≠ g)
theorem CurAt.lt {base : Nat} {w : World} {g : Nat} {zs : List Int} {at_ : Nat} (h : CurAt base w g zs at_) : g < w.heap.size := by
  obtain ⟨_, _, _, A, c, hb, _⟩ := h
  exact (Array.getElem?_eq_some_iff.1 hb).1
theorem CurAt.below {base : Nat} {w w' : World} {g : Nat} {zs : List Int} {at_ : Nat} (h : CurAt base w g zs at_) (hb : Below w.heap.size w w') : CurAt base w' g zs at_ := by
  obtain ⟨h1, h2, h3, A, c, h4, h5, h6⟩ := h
  exact ⟨h1, h2, h3, A, c, (hb.block g (Array.getElem?_eq_some_iff.1 h4).1).trans h4, own_keep h5 hb, h6⟩

theorem New_any (A : Option Addr) (n c : Nat) (zs : List Int) (w : World) (hR : Reads w .u8 A n zs) (hn : n ≤ 65536) :
    Calls Tryz.prog 14 #[.slice A n c] w fun e w' => ∃ g, e = .returned (.tuple #[.pointer (some ⟨g, 0, none⟩), .int .i64 0]) ∧ CurAt w.heap.size w' g zs 0 ∧ Below w.heap.size w w' := by
  have HR : Aside (Reads w .u8 A n zs) := hR
  have HO : Aside (w.ownsRow w.heap.size 5 1 (.slice none 0 0) ([] : List Int).length (nums .u8 [])) := World.ownsRow_nil _ _ _ _
  clear hR
  go_enter Tryz.func14, Tryz.ntmps14
  go_wp2_with (
    at_builtin
    refine append_row w.heap.size rfl _ _ 24 5 .u8 1 rfl Tryz.underlying24 infoByte (by omega) (.slice none 0 0) [] zs A n c rfl rfl HO.out HR.out (Nat.le_refl _) (by simp; omega) ?_
    intro v1 w1 hown hg hat
    have hzl : ([] ++ zs : List Int).length = n := by simpa using HR.out.1
    rw [hzl, List.nil_append] at hown
    obtain ⟨A1, L1, c1, rfl, HL1⟩ := own_form hown
    have hB : Below w.heap.size w w1 := own_grown HO.out hg (Nat.le_refl _))
  go_ret2
  have hlen : zs.length = n := HR.out.1
  subst hlen
  obtain rfl : L1 = zs.length := HL1.out
  refine ⟨w1.heap.size, rfl, ⟨hB.size, hn, Nat.zero_le _, A1, c1, heap_alloc_new _ _, hown.alloc _, ?_⟩, hB.alloc hB.size _⟩
  intro ad had e
  have := (hown.lt ad.block (by rw [had]; rfl)).2
  omega
theorem New_big (A : Option Addr) (n c : Nat) (w : World) (hn : 65536 < n) (hm : n ≤ 9223372036854775807) :
    Calls Tryz.prog 14 #[.slice A n c] w fun e w' => e = .returned (.tuple #[.pointer none, .int .i64 3]) ∧ w = w' := by
  go_enter Tryz.func14, Tryz.ntmps14
  go_wp2
  go_ret2
  exact ⟨rfl, rfl⟩

section
variable {base : Nat} {w : World} {g : Nat} {zs : List Int} {at_ : Nat}
theorem eql_ptr (a : Addr) (w : World) : (binOp .eql 67 (.pointer (some a)) (.pointer none)).run Tryz.prog w = .ok (.bool false) w := by kernel_rfl
theorem gone_any (h : CurAt base w g zs at_) : Calls Tryz.prog 135 #[.pointer (some ⟨g, 0, none⟩)] w fun e w' => e = .returned (.bool false) ∧ w = w' := by
  obtain ⟨_, _, _, A, c, hb, _⟩ := h
  have c2 : w.cell? ⟨g, 2, none⟩ = some (.bool true) := cellOf hb 2
  clear hb
  go_enter Tryz.func135, Tryz.ntmps135
  go_wp2
  go_ret
  exact ⟨rfl, rfl⟩
theorem left1_any (h : CurAt base w g zs at_) : Calls Tryz.prog 136 #[.pointer (some ⟨g, 0, none⟩)] w fun e w' => e = .returned (.int .i64 (8 * (zs.length : Int) - at_)) ∧ ∃ q, w' = w.drewN q := by
  obtain ⟨_, h1, h2, A, c, hb, _⟩ := h
  have c0 : w.cell? ⟨g, 0, none⟩ = some (.slice A zs.length c) := cellOf hb 0
  have c1 : w.cell? ⟨g, 1, none⟩ = some (.int .i64 at_) := cellOf hb 1
  generalize zs.length = n at *
  clear hb
  have s1 : IntKind.i64.wrap (8 * (n : Int)) = 8 * (n : Int) := by rw [IntKind.wrap_i64]; omega
  have s2 : IntKind.i64.wrap (8 * (n : Int) - (at_ : Int)) = 8 * (n : Int) - (at_ : Int) := by rw [IntKind.wrap_i64]; omega
  go_enter Tryz.func136, Tryz.ntmps136
  go_wp2_with fail
  go_quiet (fail)
  go_wp2
  go_ret
  exact ⟨rfl, _, rfl⟩
theorem At_any (h : CurAt base w g zs at_) : Calls Tryz.prog 21 #[.pointer (some ⟨g, 0, none⟩)] w fun e w' => e = .returned (.int .i64 at_) ∧ w = w' := by
  have H : Aside (CurAt base w g zs at_) := h
  obtain ⟨_, h1, h2, A, c, hb, _⟩ := h
  have c1 : w.cell? ⟨g, 1, none⟩ = some (.int .i64 at_) := cellOf hb 1
  clear hb
  go_enter Tryz.func21, Tryz.ntmps21
  go_wp2_with fail
  refine (gone_any H.out).mono ?_
  rintro e w' ⟨rfl, rfl⟩
  go_wp2
  go_ret
  exact ⟨rfl, rfl⟩
theorem Left_any (h : CurAt base w g zs at_) : Calls Tryz.prog 19 #[.pointer (some ⟨g, 0, none⟩)] w fun e w' => e = .returned (.int .i64 (8 * (zs.length : Int) - at_)) ∧ ∃ q, w' = w.drewN q := by
  have H : Aside (CurAt base w g zs at_) := h
  clear h
  go_enter Tryz.func19, Tryz.ntmps19
  go_wp2_with fail
  refine (gone_any H.out).mono ?_
  rintro e w' ⟨rfl, rfl⟩
  go_wp2_with fail
  refine (left1_any H.out).mono ?_
  rintro e w' ⟨rfl, q, rfl⟩
  go_wp2
  go_ret
  exact ⟨rfl, _, rfl⟩
end
end Go.Proofs.YtmoakgkoahjijaaGreatDoor

/- The cursor's rest. -/
set_option linter.unusedVariables false
set_option linter.unusedSimpArgs false
namespace Go.Proofs.YtmoakgkoahjijaaGreatDoor
open Go.RowKit PkMath

theorem Reads.drop_ {w : World} {k : IntKind} {b off n : Nat} {xs : List Int} (h : Reads w k (some ⟨b, off, none⟩) n xs) (r : Nat) (hr : r ≤ n) : Reads w k (some ⟨b, off + r, none⟩) (n - r) (xs.drop r) := by
  refine ⟨by rw [List.length_drop, h.1], by have := h.2.1; omega, fun hn => ⟨_, rfl, fun j hj => ?_⟩⟩
  obtain ⟨b', off', e, _, hc⟩ := h.plain (by omega)
  injection e with e
  injection e with e1 e2
  subst e1 e2
  have := hc (r + j) (by omega)
  rw [Addr.add_lit, Nat.add_assoc, this, List.getD_eq_getElem?_getD, List.getD_eq_getElem?_getD, List.getElem?_drop]

set_option maxHeartbeats 1600000 in
set_option maxRecDepth 100000 in
theorem Rest_any {base : Nat} {w : World} {g : Nat} {zs : List Int} {at_ : Nat} (h : CurAt base w g zs at_) :
    Calls Tryz.prog 23 #[.pointer (some ⟨g, 0, none⟩)] w fun e w' => ∃ v, e = .returned v ∧ w'.ownsRow w.heap.size 5 1 v (zs.length - (at_ + 7) / 8) (nums .u8 (zs.drop ((at_ + 7) / 8))) ∧ Below w.heap.size w w' := by
  have H : Aside (CurAt base w g zs at_) := h
  obtain ⟨_, h1, h2, A, c, hb, hown, _⟩ := h
  have c0 : w.cell? ⟨g, 0, none⟩ = some (.slice A zs.length c) := cellOf hb 0
  have c1 : w.cell? ⟨g, 1, none⟩ = some (.int .i64 at_) := cellOf hb 1
  clear hb
  have HRD : Aside (Reads w .u8 A zs.length zs) := own_rd' hown
  have HO : Aside (w.drew.ownsRow w.heap.size 5 1 (.slice none 0 0) ([] : List Int).length (nums .u8 [])) := World.ownsRow_nil _ _ _ _
  obtain ⟨r, hr⟩ : ∃ r, r = (at_ + 7) / 8 := ⟨_, rfl⟩
  have hrn : r ≤ zs.length := by omega
  have s1 : IntKind.i64.wrap ((at_ : Int) + 7) = (at_ : Int) + 7 := by rw [IntKind.wrap_i64]; omega
  have s2 : ((at_ : Int) + 7) / 8 = (r : Int) := by omega
  have s3 : ((at_ : Int) + 7).tdiv 8 = (r : Int) := by rw [Int.tdiv_eq_ediv_of_nonneg (by omega)]; exact s2
  have s4 : (0 : Int) ≤ (r : Int) := by omega
  have s7 : IntKind.i64.wrap (r : Int) = (r : Int) := by rw [IntKind.wrap_i64]; omega
  have hglt := H.out.lt
  have s5 : (r : Int) ≤ (zs.length : Int) := by omega
  have hnc : zs.length ≤ c := by
    rcases hown.2 with ⟨e, _⟩ | ⟨_, cap, _, e, _, _, hc, _⟩
    · injection e with _ e2 e3; omega
    · injection e with _ _ e3; omega
  rw [← hr]
  have HRr : Aside (r = (at_ + 7) / 8) := hr
  clear hr
  rcases hown.2 with ⟨e, h0⟩ | ⟨g2, cap, cur, e, hg2, hb2, hc2, hcm, _⟩
  · injection e with e1 e2 e3
    subst e1 e3
    obtain rfl : r = 0 := by omega
    have hz : zs = [] := List.eq_nil_of_length_eq_zero h0
    subst hz
    have HD : Aside (Reads w.drew .u8 none 0 []) := Reads.nil _ _
    clear hown HRr
    go_enter Tryz.func23, Tryz.ntmps23
    go_wp2_with fail
    refine (gone_any H.out).mono ?_
    rintro e w' ⟨rfl, rfl⟩
    simp only [List.length_nil, Int.natCast_zero] at *
    go_wp2_with fail
    go_region_held3 (fun w' => w'.cell? ⟨g, 0, none⟩ = some (.slice none 0 0) ∧ w'.cell? ⟨g, 1, none⟩ = some (.int .i64 at_)) (first | go_keep | exact ⟨c0, c1⟩)
      ((refine step_append_row w.heap.size (by rfl) _ _ 24 5 .u8 1 (by rfl) Tryz.underlying24 infoByte (by omega) (.slice none 0 0) [] [] _ 0 0 (by rfl) (by rfl) (by exact HO.out) (by exact HD.out) (by exact Nat.le_refl _) (by simp) ?_; intro v1 w1 hown1 hg1 hat1; have hb1 : Below w.heap.size w w1 := (Below.refl _ _).drew.trans (own_grown HO.out hg1 (Nat.le_refl _)); have c0 := (hb1.cell (p := ⟨g, 0, none⟩) hglt).trans c0; have c1 := (hb1.cell (p := ⟨g, 1, none⟩) hglt).trans c1))
    go_wp2
    go_ret
    exact ⟨v1, rfl, by simpa using hown1, hb1⟩
  · injection e with e1 e2 e3
    subst e1 e3
    have hcm' : c ≤ 9223372036854775807 := by simpa [maxLen] using hcm
    have hdl : Aside ((zs.drop r).length = zs.length - r) := by show List.length _ = _; rw [List.length_drop]
    by_cases hcr : c = r
    · have hrn2 : zs.length = r := by omega
      have HD : Aside (Reads w.drew .u8 (some ⟨g2, 0, none⟩) 0 (zs.drop r)) := ⟨by rw [hdl.out]; omega, by omega, fun h => by omega⟩
      have c0 : w.cell? ⟨g, 0, none⟩ = some (.slice (some ⟨g2, 0, none⟩) r r) := by rw [c0, hrn2, hcr]
      rw [hrn2] at hdl s5 hrn ⊢
      subst hcr
      clear hown hb2 HRr
      generalize zs.drop c = ys at *
      have HY : Aside (ys.length = c - c) := by show ys.length = c - c; rw [hdl.out]
      go_enter Tryz.func23, Tryz.ntmps23
      go_wp2_with fail
      refine (gone_any H.out).mono ?_
      rintro e w' ⟨rfl, rfl⟩
      go_wp2_with fail
      go_region_held3 (fun w' => w'.cell? ⟨g, 0, none⟩ = some (.slice (some ⟨g2, 0, none⟩) c c) ∧ w'.cell? ⟨g, 1, none⟩ = some (.int .i64 at_)) (first | go_keep | exact ⟨c0, c1⟩)
        ((refine step_append_row w.heap.size (by rfl) _ _ 24 5 .u8 1 (by rfl) Tryz.underlying24 infoByte (by omega) (.slice none 0 0) [] ys _ 0 0 (by rfl) (by first | rfl | simp) (by exact HO.out) (by exact HD.out) (by exact Nat.le_refl _) (by simp) ?_; intro v1 w1 hown1 hg1 hat1; have hb1 : Below w.heap.size w w1 := (Below.refl _ _).drew.trans (own_grown HO.out hg1 (Nat.le_refl _)); have c0 := (hb1.cell (p := ⟨g, 0, none⟩) hglt).trans c0; have c1 := (hb1.cell (p := ⟨g, 1, none⟩) hglt).trans c1))
      go_wp2
      go_ret
      exact ⟨v1, rfl, by rw [List.nil_append, HY.out] at hown1; exact hown1, hb1⟩
    · have HD : Aside (Reads w.drew .u8 (some ⟨g2, r, none⟩) (zs.length - r) (zs.drop r)) := by have := (HRD.out.below ((Below.refl _ _).drew)).drop_ r hrn; rwa [Nat.zero_add] at this
      clear hown hb2
      generalize zs.drop r = ys at *
      generalize hn : zs.length = n at *
      have s6 : (n : Int) ≤ (c : Int) := by omega
      have hsl : ∀ W : World, (Instr.slice 24 (.slice (some ⟨g2, 0, none⟩) n c) (some (.int .i64 (r : Int))) none none).run Tryz.prog W = .ok (.slice (some ⟨g2, r, none⟩) (n - r) (c - r)) W := by
        intro W
        rw [run_slice_l (P := Tryz.prog) W 24 (some ⟨g2, 0, none⟩) n c (by kernel_rfl) .i64 (r : Int) s4 s5]
        have hsz : (sizeOf (Tryz.prog.elem 24)).run Tryz.prog W = .ok 1 W := by kernel_rfl
        rw [hsz]
        simp [sliced, Result.andThen, hcr, Addr.add_lit]
      have HCR : Aside (¬ c = r) := hcr
      clear hcr
      go_enter Tryz.func23, Tryz.ntmps23
      go_wp2_with fail
      refine (gone_any H.out).mono ?_
      rintro e w' ⟨rfl, rfl⟩
      go_wp2_with fail
      go_region_held3 (fun w' => w'.cell? ⟨g, 0, none⟩ = some (.slice (some ⟨g2, 0, none⟩) n c) ∧ w'.cell? ⟨g, 1, none⟩ = some (.int .i64 at_)) (first | go_keep | exact ⟨c0, c1⟩)
        ((refine step_append_row w.heap.size (by rfl) _ _ 24 5 .u8 1 (by rfl) Tryz.underlying24 infoByte (by omega) (.slice none 0 0) [] ys _ (n - r) (c - r) (by rfl) (by rfl) (by exact HO.out) (by exact HD.out) (by exact Nat.le_refl _) (by simp; omega) ?_; intro v1 w1 hown1 hg1 hat1; have hb1 : Below w.heap.size w w1 := (Below.refl _ _).drew.trans (own_grown HO.out hg1 (Nat.le_refl _)); have c0 := (hb1.cell (p := ⟨g, 0, none⟩) hglt).trans c0; have c1 := (hb1.cell (p := ⟨g, 1, none⟩) hglt).trans c1))
      go_wp2
      go_ret
      exact ⟨v1, rfl, by rw [List.nil_append, hdl.out] at hown1; exact hown1, hb1⟩
end Go.Proofs.YtmoakgkoahjijaaGreatDoor

/- The cursor's Take. -/
set_option linter.unusedVariables false
set_option linter.unusedSimpArgs false
namespace Go.Proofs.YtmoakgkoahjijaaGreatDoor
open Go.RowKit PkMath

theorem CurAt.step {base : Nat} {w : World} {g : Nat} {zs : List Int} {a : Nat} (h : CurAt base w g zs a) (b : Nat) (hb : b ≤ 8 * zs.length) : CurAt base (w.setCell ⟨g, 1, none⟩ (.int .i64 (b : Int))) g zs b := by
  obtain ⟨h1, h2, h3, A, c, h4, h5, h6⟩ := h
  refine ⟨h1, h2, hb, A, c, ?_, ?_, h6⟩
  · have := setCell_heap h4 1 (.int .i64 (b : Int))
    rw [this]; rfl
  · refine ⟨h5.1, h5.2.elim .inl ?_⟩
    rintro ⟨g2, cap, cur, e, e2, e3, r⟩
    refine .inr ⟨g2, cap, cur, e, e2, ?_, r⟩
    rw [Below.heap_setCell _ _ _ _ ?_]
    · exact e3
    · injection e with e _ _
      subst e
      exact h6 _ rfl
theorem CurAt.drewN {base : Nat} {w : World} {g : Nat} {zs : List Int} {a : Nat} (h : CurAt base w g zs a) (n : Nat) : CurAt base (w.drewN n) g zs a := h.below ⟨rfl, rfl, rfl, Nat.le_refl _, fun _ _ => rfl⟩
/-- The bytes are read. -/
theorem CurAt.byte {base : Nat} {w : World} {g : Nat} {zs : List Int} {a : Nat} (h : CurAt base w g zs a) (j : Nat) (hj : j < zs.length) : ∃ g2 c, w.heap[g]? = some (.cells #[.slice (some ⟨g2, 0, none⟩) zs.length c, .int .i64 (a : Int), .bool true] 76 (0, 0)) ∧ w.cell? ⟨g2, j, none⟩ = some (.int .u8 (zs.getD j 0)) := by
  obtain ⟨h1, h2, h3, A, c, h4, h5, h6⟩ := h
  obtain ⟨g2, c2, e, _⟩ := own_some h5 (by omega)
  injection e with e1 _ e3
  subst e1 e3
  exact ⟨g2, c, h4, own_at h5 j hj⟩

set_option maxRecDepth 100000 in
set_option maxHeartbeats 3200000 in
theorem Take_short {base : Nat} {w : World} {g : Nat} {zs : List Int} {at_ : Nat} (h : CurAt base w g zs at_) (wd : Nat) (h1 : 1 ≤ wd) (h2 : wd ≤ 128) (h3 : 8 * zs.length - at_ < wd) :
    Calls Tryz.prog 17 #[.pointer (some ⟨g, 0, none⟩), .int .i64 (wd : Int)] w fun e w' => e = .returned (.tuple #[bitsV 0 0 0, .int .i64 9]) ∧ Below w.heap.size w w' := by
  have hB := (Below.refl w.heap.size w).alloc (Nat.le_refl _) (.cells #[.int .i64 0, .int .u64 0, .int .u64 0] 79 (0,0))
  have H : Aside (CurAt base (w.alloc (.cells #[.int .i64 0, .int .u64 0, .int .u64 0] 79 (0,0))) g zs at_) := h.below hB
  have hal := h.2.2.1
  have hd1 : decide ((wd : Int) < 1) = false := decide_eq_false (by omega)
  have hd2 : decide (128 < (wd : Int)) = false := decide_eq_false (by omega)
  have hd3 : 8 * (zs.length : Int) - (at_ : Int) < (wd : Int) := by omega
  clear h
  generalize hn : zs.length = n at *
  go_enter Tryz.func17, Tryz.ntmps17
  go_wp2_with fail
  refine (gone_any H.out).mono ?_
  rintro e w' ⟨rfl, rfl⟩
  go_wp2_with fail
  refine (left1_any H.out).mono ?_
  rintro e w' ⟨rfl, q, rfl⟩
  rw [hn]
  go_wp2
  have h4 : ((w.alloc (.cells #[.int .i64 0, .int .u64 0, .int .u64 0] 79 (0,0))).drewN q).heap[w.heap.size]? = some (.cells #[.int .i64 0, .int .u64 0, .int .u64 0] 79 (0,0)) := heap_alloc_new ..
  refine bodyPost_ret (results_row_tmp rfl _ _ w.heap.size 79 _ (0,0) _ rfl (set3 h4 _ _ _) Tryz.underlying79 rfl (by kernel_rfl)) rfl ⟨rfl, ?_⟩
  exact (((below_drewN hB q).setCell (p := ⟨_, _, _⟩) (Nat.le_refl _) _).setCell (p := ⟨_, _, _⟩) (Nat.le_refl _) _).setCell (p := ⟨_, _, _⟩) (Nat.le_refl _) _
end Go.Proofs.YtmoakgkoahjijaaGreatDoor

/- The cursor's Take, of bits that are there. -/
set_option linter.unusedVariables false
set_option linter.unusedSimpArgs false
namespace Go.Proofs.YtmoakgkoahjijaaGreatDoor
open Go.RowKit PkMath

/-- What bits tell, in two halves. -/
def hiOf (v : Nat) : Int := ((v / 18446744073709551616 : Nat) : Int)
def loOf (v : Nat) : Int := ((v % 18446744073709551616 : Nat) : Int)

theorem min2_run (a b n : Nat) (h : n = min a b) (W : World) : (Builtin.min_ #[3, 3] 3 #[.int .i64 (a : Int), .int .i64 (b : Int)]).run Tryz.prog W = .ok (.int .i64 (n : Int)) W := by
  have e : (if (b : Int) < (a : Int) then (b : Int) else (a : Int)) = (n : Int) := by split <;> omega
  simp [Builtin.min_, Builtin.min2]
  by_cases hb : b < a
  · rw [if_pos hb]; omega
  · rw [if_neg hb]; omega
/-- The bits of one byte, as Go takes them. -/
theorem part_eq (x : Int) (hx : 0 ≤ x ∧ x ≤ 255) (fk k : Nat) (h1 : 1 ≤ k) (h8 : k ≤ 8) : ∃ p : Nat, bits .and .u8 (x / 2 ^ fk) ((2 ^ k - 1) % 256) = (p : Int) ∧ p = x.toNat / 2 ^ fk % 2 ^ k := by
  refine ⟨x.toNat / 2 ^ fk % 2 ^ k, ?_, rfl⟩
  obtain ⟨n, rfl⟩ := Int.eq_ofNat_of_zero_le hx.1
  have hp : (2:Int) ^ fk = ((2 ^ fk : Nat) : Int) := by simp
  have hq : (2:Int) ^ k = ((2 ^ k : Nat) : Int) := by simp
  have hk : 2 ^ k ≤ 2 ^ 8 := Nat.pow_le_pow_right (by decide) h8
  have hpos : 0 < 2 ^ k := Nat.two_pow_pos k
  have hdiv : n / 2 ^ fk ≤ n := Nat.div_le_self _ _
  have e : ((2:Int) ^ k - 1) % 256 = 2 ^ k - 1 := by rw [hq]; omega
  rw [e, hp]
  have e2 : (n : Int) / ((2 ^ fk : Nat) : Int) = ((n / 2 ^ fk : Nat) : Int) := (Int.natCast_ediv n (2 ^ fk)).symm
  rw [e2, Int.toNat_natCast]
  generalize n / 2 ^ fk = q at *
  rw [bits_mask .u8 8 (by decide) wraps_u8 k h8 _ (by omega) (by omega), hq]
  simp
/-- Two halves, moved up by some bits, and these. -/
theorem halves (v t k m p : Nat) (hv : v < 2 ^ t) (htk : t + k ≤ 128) (h1 : 1 ≤ k) (h8 : k ≤ 8) (hm : m + k = 64) (hp : p < 2 ^ k) :
    bits .or .u64 (IntKind.u64.wrap (hiOf v * 2 ^ k)) (loOf v / 2 ^ m) = hiOf (v * 2 ^ k + p) ∧ bits .or .u64 (IntKind.u64.wrap (loOf v * 2 ^ k)) (p : Int) = loOf (v * 2 ^ k + p) := by
  have hb : v < 2 ^ (128 - k) := Nat.lt_of_lt_of_le hv (Nat.pow_le_pow_right (by decide) (by omega))
  have key : ∀ x y : Int, 0 ≤ x → x % 2 ^ k = 0 → x < 2 ^ 64 → 0 ≤ y → y < 2 ^ k → bits .or .u64 x y = x + y := fun x y a b c d e => by
    have h2 : (2 : Int) ^ k ≤ 2 ^ 64 := by exact_mod_cast Nat.pow_le_pow_right (n := 2) (by decide) (by omega : k ≤ 64)
    exact bits_join .u64 64 (by decide) wraps_u64 k x y a b c d e (by omega)
  unfold hiOf loOf
  have hm2 : m = 64 - k := by omega
  subst hm2
  clear hv hm htk
  obtain rfl | rfl | rfl | rfl | rfl | rfl | rfl | rfl : k = 1 ∨ k = 2 ∨ k = 3 ∨ k = 4 ∨ k = 5 ∨ k = 6 ∨ k = 7 ∨ k = 8 := by omega
  all_goals
    rw [IntKind.wrap_u64, IntKind.wrap_u64]
    simp only [Nat.reduceSub, Nat.reducePow] at hb hp ⊢
    rw [key _ _ (by omega) (by omega) (by omega) (by omega) (by omega), key _ _ (by omega) (by omega) (by omega) (by omega) (by omega)]
    constructor <;> omega
/-- A store into a block of another type. -/
theorem CurAt.far {base : Nat} {w : World} {g : Nat} {zs : List Int} {a : Nat} (h : CurAt base w g zs a) {p : Addr} (hg : p.block ≠ g) {cs : Array Value} (ht : w.heap[p.block]? = some (.cells cs 79 (0, 0))) (u : Value) : CurAt base (w.setCell p u) g zs a := by
  obtain ⟨h1, h2, h3, A, c, h4, h5, h6⟩ := h
  refine ⟨h1, h2, h3, A, c, ?_, ?_, h6⟩
  · rw [Below.heap_setCell _ _ _ _ (Ne.symm hg)]; exact h4
  · refine ⟨h5.1, h5.2.elim .inl ?_⟩
    rintro ⟨g2, cap, cur, e, e2, e3, r⟩
    refine .inr ⟨g2, cap, cur, e, e2, ?_, r⟩
    rw [Below.heap_setCell _ _ _ _ ?_]
    · exact e3
    · intro e4
      rw [← e4, e3] at ht
      injection ht with ht
      injection ht with _ ht _
      exact absurd ht (by decide)
/-- Bits that fit are not cut. -/
theorem cut_same (v w : Nat) (hv : v < 2 ^ w) (hw : w ≤ 128) : (cutHi w (hiOf v) = hiOf v ∧ cutLo w (loOf v) = loOf v) ∧ (0 ≤ hiOf v ∧ hiOf v ≤ 18446744073709551615) ∧ (0 ≤ loOf v ∧ loOf v ≤ 18446744073709551615) := by
  have h128 : v < 2 ^ 128 := Nat.lt_of_lt_of_le hv (Nat.pow_le_pow_right (by decide) hw)
  have hb : (0 ≤ hiOf v ∧ hiOf v ≤ 18446744073709551615) ∧ (0 ≤ loOf v ∧ loOf v ≤ 18446744073709551615) := by
    unfold hiOf loOf
    refine ⟨⟨by omega, by omega⟩, by omega, by omega⟩
  refine ⟨?_, hb⟩
  unfold cutHi cutLo
  by_cases h : w < 64
  · rw [if_pos h, if_pos h]
    have h64 : 2 ^ w ≤ 2 ^ 63 := Nat.pow_le_pow_right (by decide) (by omega)
    have hp : (2 : Int) ^ w = ((2 ^ w : Nat) : Int) := by simp
    unfold hiOf loOf
    refine ⟨by omega, ?_⟩
    rw [hp, Nat.mod_eq_of_lt (by omega)]
    exact Int.emod_eq_of_lt (by omega) (by omega)
  · rw [if_neg h, if_neg h]
    refine ⟨?_, rfl⟩
    have hp : (2 : Int) ^ (w - 64) = ((2 ^ (w - 64) : Nat) : Int) := by simp
    have hdiv : v / 18446744073709551616 < 2 ^ (w - 64) := by
      rw [Nat.div_lt_iff_lt_mul (by decide)]
      have : 2 ^ (w - 64) * 18446744073709551616 = 2 ^ w := by
        rw [show (18446744073709551616 : Nat) = 2 ^ 64 by decide, ← Nat.pow_add]
        congr 1
        omega
      omega
    unfold hiOf
    rw [hp]
    exact Int.emod_eq_of_lt (by omega) (by omega)
theorem win_zero (l : List Bool) (a : Nat) : win l a 0 = [] := by simp [win]

set_option maxRecDepth 100000 in
set_option maxHeartbeats 3200000 in
theorem Take_ok {base : Nat} {w : World} {g : Nat} {zs : List Int} {at_ : Nat} (hx : ∀ j, 0 ≤ zs.getD j 0 ∧ zs.getD j 0 ≤ 255) (h : CurAt base w g zs at_) (wd : Nat) (h1 : 1 ≤ wd) (h2 : wd ≤ 128) (h3 : at_ + wd ≤ 8 * zs.length) :
    Calls Tryz.prog 17 #[.pointer (some ⟨g, 0, none⟩), .int .i64 (wd : Int)] w fun e w' => e = .returned (.tuple #[bitsV wd (hiOf (numOf (win (bitsL zs) at_ wd))) (loOf (numOf (win (bitsL zs) at_ wd))), .int .i64 0]) ∧ CurAt base w' g zs (at_ + wd) ∧ Foot (fun k => k = g) w w' := by
  have hB := (Below.refl w.heap.size w).alloc (Nat.le_refl _) (.cells #[.int .i64 0, .int .u64 0, .int .u64 0] 79 (0,0))
  have H : Aside (CurAt base (w.alloc (.cells #[.int .i64 0, .int .u64 0, .int .u64 0] 79 (0,0))) g zs at_) := h.below hB
  have hgs := h.lt
  have hz6 := h.2.1
  have hd1 : decide ((wd : Int) < 1) = false := decide_eq_false (by omega)
  have hd2 : decide (128 < (wd : Int)) = false := decide_eq_false (by omega)
  have hd3 : (wd : Int) ≤ 8 * (zs.length : Int) - (at_ : Int) := by omega
  have HZ : Aside (∀ j, 0 ≤ zs.getD j 0 ∧ zs.getD j 0 ≤ 255) := hx
  have h4 : (w.alloc (.cells #[.int .i64 0, .int .u64 0, .int .u64 0] 79 (0,0))).heap[w.heap.size]? = some (.cells #[.int .i64 0, .int .u64 0, .int .u64 0] 79 (0,0)) := heap_alloc_new ..
  have HB : Aside (Below w.heap.size w (w.alloc (.cells #[.int .i64 0, .int .u64 0, .int .u64 0] 79 (0,0))) ∧ (w.alloc (.cells #[.int .i64 0, .int .u64 0, .int .u64 0] 79 (0,0))).heap[w.heap.size]? = some (.cells #[.int .i64 0, .int .u64 0, .int .u64 0] 79 (0,0))) := ⟨hB, h4⟩
  clear h hx hB h4
  generalize hV : w.alloc (.cells #[.int .i64 0, .int .u64 0, .int .u64 0] 79 (0,0)) = V at *
  have HV : Aside (w.alloc (.cells #[.int .i64 0, .int .u64 0, .int .u64 0] 79 (0,0)) = V) := hV
  clear hV
  go_enter Tryz.func17, Tryz.ntmps17
  go_wp2_with fail
  rw [HV.out]
  refine (gone_any H.out).mono ?_
  rintro e w' ⟨rfl, rfl⟩
  go_wp2_with fail
  refine (left1_any H.out).mono ?_
  rintro e w' ⟨rfl, q, rfl⟩
  go_wp2
  go_loopw [6, 7, 8] (fun hi lo n wr => ∃ t : Nat, t ≤ wd ∧ n = .int .i64 ((wd - t : Nat) : Int) ∧ hi = .int .u64 (hiOf (numOf (win (bitsL zs) at_ t))) ∧ lo = .int .u64 (loOf (numOf (win (bitsL zs) at_ t))) ∧ Aside (CurAt base wr g zs (at_ + t) ∧ Foot (fun k => k = g) V wr)) (fun _ _ n _ => (intOf n).toNat)
  case atStart => exact ⟨0, Nat.zero_le _, by simp, by rw [win_zero]; rfl, by rw [win_zero]; rfl, ⟨H.out.drewN q, (Foot.refl _ V).drewN q⟩⟩
  case round =>
    obtain ⟨t, ht, rfl, rfl, rfl, hI⟩ := hrel
    clear H
    by_cases hlt : t < wd
    · obtain ⟨a, ha⟩ : ∃ a, a = at_ + t := ⟨_, rfl⟩
      obtain ⟨k, hk⟩ : ∃ k, k = min (8 - a % 8) (wd - t) := ⟨_, rfl⟩
      have hk1 : 1 ≤ k := by omega
      have hk8 : k ≤ 8 := by omega
      have hak : a % 8 + k ≤ 8 := by omega
      have hktw : t + k ≤ wd := by omega
      rw [← ha] at hI
      obtain ⟨g2, c, hb, hbyte⟩ := hI.out.1.byte (a / 8) (by omega)
      have c0 : wr.cell? ⟨g, 0, none⟩ = some (.slice (some ⟨g2, 0, none⟩) zs.length c) := cellOf hb 0
      have c1 : wr.cell? ⟨g, 1, none⟩ = some (.int .i64 (a : Int)) := cellOf hb 1
      have f1 := frozenOf hb 1
      have hxb := HZ.out (a / 8)
      obtain ⟨j, hj⟩ : ∃ j, j = a / 8 := ⟨_, rfl⟩
      rw [← hj] at hbyte hxb
      have hjn : j < zs.length := by omega
      obtain ⟨fr, hfr⟩ : ∃ fr : Nat, fr = 8 - a % 8 := ⟨_, rfl⟩
      have HK : Aside (k = min (8 - a % 8) (wd - t) ∧ a = at_ + t ∧ j = a / 8 ∧ fr = 8 - a % 8) := ⟨hk, ha, hj, hfr⟩
      generalize hnt : wd - t = nn at *
      have HNT : Aside (wd - t = nn) := hnt
      have s1 : (8 : Int) - (a : Int) % 8 = (fr : Int) := by omega
      have s2 : (8 : Int) - ((a : Int).tmod 8) = (fr : Int) := by rw [Int.tmod_eq_emod_of_nonneg (by omega)]; exact s1
      have s3 : (a : Int) / 8 = (j : Int) := by omega
      have s4 : (a : Int).tdiv 8 = (j : Int) := by rw [Int.tdiv_eq_ediv_of_nonneg (by omega)]; exact s3
      have hnn : (0 : Int) < (nn : Int) := by omega
      have hmn := min2_run fr nn k (by omega)
      clear hb hk ha hj hfr hnt
      obtain ⟨fk, hfk⟩ : ∃ fk : Nat, fr = fk + k := ⟨fr - k, by have := HK.out; omega⟩
      have s5 : (fr : Int) - (k : Int) = (fk : Int) := by omega
      have s6 : (0 : Int) ≤ (j : Int) := by omega
      have s7 : (j : Int) < (zs.length : Int) := by omega
      have HFK : Aside (fr = fk + k) := hfk
      clear hfk
      generalize hbx : zs.getD j 0 = x at *
      have HBX : Aside (zs.getD j 0 = x) := hbx
      clear hbx
      have s8 : IntKind.i64.wrap (fk : Int) = (fk : Int) := by rw [IntKind.wrap_i64]; have := HFK.out; have := HK.out; omega
      have s9 : IntKind.i64.wrap (j : Int) = (j : Int) := by rw [IntKind.wrap_i64]; omega
      have s10 : (0 : Int) ≤ (fk : Int) := by omega
      have s11 : (0 : Int) ≤ (k : Int) := by omega
      obtain ⟨p, hp, hpv⟩ := part_eq x hxb fk k hk1 hk8
      have HPV : Aside (p = x.toNat / 2 ^ fk % 2 ^ k) := hpv
      have hpk : p < 2 ^ k := by rw [hpv]; exact Nat.mod_lt _ (Nat.two_pow_pos k)
      have hp256 : p ≤ 255 := by
        have : 2 ^ k ≤ 2 ^ 8 := Nat.pow_le_pow_right (by decide) hk8
        omega
      have HPK : Aside (p < 2 ^ k) := hpk
      clear hpv hpk
      obtain ⟨n2, hn2⟩ : ∃ n2 : Nat, n2 + k = nn := ⟨nn - k, by have := HK.out; omega⟩
      have s15 : (nn : Int) - (k : Int) = (n2 : Int) := by omega
      have HN2 : Aside (n2 + k = nn) := hn2
      have s17 : (n2 : Int) ≤ 128 := by have := HNT.out; omega
      have s18 : (0 : Int) ≤ (n2 : Int) := by omega
      have s19 : (nn : Int) ≤ 128 := by have := HNT.out; omega
      clear hn2
      obtain ⟨m, hm⟩ : ∃ m : Nat, m + k = 64 := ⟨64 - k, by omega⟩
      have s12 : (64 : Int) - (k : Int) = (m : Int) := by omega
      have s13 : IntKind.i64.wrap (m : Int) = (m : Int) := by rw [IntKind.wrap_i64]; omega
      have s14 : (0 : Int) ≤ (m : Int) := by omega
      have hbl : (bitsL zs).length = 8 * zs.length := bitsL_length zs
      have hnew : numOf (win (bitsL zs) at_ (t + k)) = numOf (win (bitsL zs) at_ t) * 2 ^ k + p := by
        have hw : numOf (win (bitsL zs) a k) = p := by
          have h := numOf_win_byte zs a k hak (by have := HK.out; omega) (by omega)
          rw [← HK.out.2.2.1, HBX.out] at h
          rw [h, HPV.out]
          congr 2
          have := HK.out; have := HFK.out
          congr 1
          omega
        rw [win_add, numOf_append, ← HK.out.2.1, hw, win_length _ _ _ (by have := HK.out; omega)]
      have hvlt : numOf (win (bitsL zs) at_ t) < 2 ^ t := by
        have h := numOf_lt (win (bitsL zs) at_ t)
        rwa [win_length _ _ _ (by omega)] at h
      have hh := halves (numOf (win (bitsL zs) at_ t)) t k m p hvlt (by omega) hk1 hk8 hm HPK.out
      rw [← hnew] at hh
      have HN : Aside (bits .or .u64 (IntKind.u64.wrap (hiOf (numOf (win (bitsL zs) at_ t)) * 2 ^ k)) (loOf (numOf (win (bitsL zs) at_ t)) / 2 ^ m) = hiOf (numOf (win (bitsL zs) at_ (t + k))) ∧ bits .or .u64 (IntKind.u64.wrap (loOf (numOf (win (bitsL zs) at_ t)) * 2 ^ k)) (p : Int) = loOf (numOf (win (bitsL zs) at_ (t + k)))) := hh
      clear hbl hnew hvlt hh
      have hI2 : Aside (∀ n, CurAt base ((wr.drewN n).setCell ⟨g, 1, none⟩ (.int .i64 ((a + k : Nat) : Int))) g zs (at_ + (t + k)) ∧ Foot (fun k => k = g) V ((wr.drewN n).setCell ⟨g, 1, none⟩ (.int .i64 ((a + k : Nat) : Int)))) := by
        intro n
        have e : at_ + (t + k) = a + k := by rw [HK.out.2.1]; omega
        rw [e]
        exact ⟨(hI.out.1.drewN n).step (a + k) (by have := HK.out; omega), (hI.out.2.drewN n).setCell (p := ⟨_, _, _⟩) (.inl rfl) _⟩
      generalize hhi : hiOf (numOf (win (bitsL zs) at_ t)) = hi at *
      generalize hlo : loOf (numOf (win (bitsL zs) at_ t)) = lo at *
      have HHL : Aside (hiOf (numOf (win (bitsL zs) at_ t)) = hi ∧ loOf (numOf (win (bitsL zs) at_ t)) = lo) := ⟨hhi, hlo⟩
      clear hhi hlo
      go_wp2_with fail
      go_quiet (fail)
      go_wp2_with fail
      go_quiet (fail)
      go_wp2
      go_roundw
      case rel => exact ⟨t + k, by have := HK.out; omega, by have h1 := HK.out; have h2 := HNT.out; have h3 := HN2.out; (rw [show wd - (t + k) = n2 by omega]), by rw [HN.out.1], by rw [HN.out.2], by have h := hI2.out; simpa [Aside] using h _⟩
      case measure => simp [intOf]; have h3 := HN2.out; omega
    · obtain rfl : t = wd := by omega
      have hbl : (bitsL zs).length = 8 * zs.length := bitsL_length zs
      have hvlt : numOf (win (bitsL zs) at_ t) < 2 ^ t := by
        have h := numOf_lt (win (bitsL zs) at_ t)
        rwa [win_length _ _ _ (by omega)] at h
      obtain ⟨hcut, hbd⟩ := cut_same (numOf (win (bitsL zs) at_ t)) t hvlt h2
      have HC : Aside (cutHi t (hiOf (numOf (win (bitsL zs) at_ t))) = hiOf (numOf (win (bitsL zs) at_ t)) ∧ cutLo t (loOf (numOf (win (bitsL zs) at_ t))) = loOf (numOf (win (bitsL zs) at_ t))) := hcut
      clear hbl hvlt hcut
      generalize hhi : hiOf (numOf (win (bitsL zs) at_ t)) = hi at *
      generalize hlo : loOf (numOf (win (bitsL zs) at_ t)) = lo at *
      have HHL : Aside (hiOf (numOf (win (bitsL zs) at_ t)) = hi ∧ loOf (numOf (win (bitsL zs) at_ t)) = lo) := ⟨hhi, hlo⟩
      clear hhi hlo
      have h0 : ((t - t : Nat) : Int) = 0 := by omega
      rw [h0]
      have h5 : wr.heap[w.heap.size]? = some (.cells #[.int .i64 0, .int .u64 0, .int .u64 0] 79 (0,0)) := hI.out.2.blk HB.out.2 (by show ¬ w.heap.size = g; omega)
      have HS : Aside (w.heap.size < wr.heap.size) := (Array.getElem?_eq_some_iff.1 h5).1
      clear h0
      go_wp2_with fail
      refine (of_any t hi lo _ h1 h2 hbd.1 hbd.2).mono ?_
      rintro e w2 ⟨rfl, hb2⟩
      rw [HC.out.1, HC.out.2]
      unfold bitsV
      have h6 := (hb2.block w.heap.size HS.out).trans h5
      have d0 : w2.cell? ⟨w.heap.size, 0, none⟩ = some (.int .i64 0) := cellOf h6 0
      have d1 : w2.cell? ⟨w.heap.size, 1, none⟩ = some (.int .u64 0) := cellOf h6 1
      have d2 : w2.cell? ⟨w.heap.size, 2, none⟩ = some (.int .u64 0) := cellOf h6 2
      have f0 := frozenOf h6 0
      have f1 := frozenOf h6 1
      have f2 := frozenOf h6 2
      have H6 : Aside _ := h6
      clear h5 h6
      go_wp2
      refine bodyPost_ret (results_row_tmp rfl _ _ w.heap.size 79 _ (0,0) _ rfl (set3 H6.out _ _ _) Tryz.underlying79 rfl (by kernel_rfl)) rfl ⟨by rw [HHL.out.1, HHL.out.2]; rfl, ?_, ?_⟩
      · have q0 := hI.out.1.below hb2
        have hne : w.heap.size ≠ g := by omega
        have q1 := q0.far (p := ⟨w.heap.size, 0, none⟩) hne H6.out (.int .i64 (t : Int))
        have q2 := q1.far (p := ⟨w.heap.size, 1, none⟩) hne (setCell_heap H6.out 0 _) (.int .u64 hi)
        exact q2.far (p := ⟨w.heap.size, 2, none⟩) hne (setCell_heap (setCell_heap H6.out 0 _) 1 _) (.int .u64 lo)
      · have r0 : Foot (fun k => k = g) w wr := (Foot.ofBelow HB.out.1 (fun k => k = g)).trans hI.out.2 (fun i hi => .inl hi)
        have r1 : Foot (fun k => k = g) w w2 := r0.trans (Foot.ofBelow hb2 (fun k => k = g)) (fun i hi => .inl hi)
        exact ((r1.setCell (p := ⟨w.heap.size, 0, none⟩) (.inr (Nat.le_refl _)) _).setCell (p := ⟨w.heap.size, 1, none⟩) (.inr (Nat.le_refl _)) _).setCell (p := ⟨w.heap.size, 2, none⟩) (.inr (Nat.le_refl _)) _
end Go.Proofs.YtmoakgkoahjijaaGreatDoor

/- The contract of bits.Check, of any number. -/
set_option linter.unusedVariables false
set_option linter.unusedSimpArgs false
namespace Go.Proofs.YtmoakgkoahjijaaGreatDoor
open Go.RowKit

/-- A number that may be. -/
def Num.ok (x : Num) : Prop := 1 ≤ x.W ∧ x.W ≤ 128 ∧ cutHi x.W.toNat x.Hi = x.Hi ∧ cutLo x.W.toNat x.Lo = x.Lo

theorem held_bits {g : Nat} {u v : World} {a b c : Value} {w : World} (h : (u.cell? ⟨g, 0, none⟩ = some a ∧ u.cell? ⟨g, 1, none⟩ = some b ∧ u.cell? ⟨g, 2, none⟩ = some c) ∧ Below w.heap.size w u ∧ g < u.heap.size) (hb : Below u.heap.size u v) :
    (v.cell? ⟨g, 0, none⟩ = some a ∧ v.cell? ⟨g, 1, none⟩ = some b ∧ v.cell? ⟨g, 2, none⟩ = some c) ∧ Below w.heap.size w v ∧ g < v.heap.size := by
  obtain ⟨⟨h1, h2, h3⟩, h4, h5⟩ := h
  have := hb.size
  exact ⟨⟨(hb.cell (p := ⟨_, _, _⟩) h5).trans h1, (hb.cell (p := ⟨_, _, _⟩) h5).trans h2, (hb.cell (p := ⟨_, _, _⟩) h5).trans h3⟩, h4.trans (hb.mono h4.size), by omega⟩

set_option maxHeartbeats 1600000 in
theorem check_good (x : Num) (hw : x.wf) (ho : x.ok) (w : World) : Calls Tryz.prog 40 #[x.v] w fun e w' => e = .returned (.bool true) ∧ Below w.heap.size w w' := by
  obtain ⟨W, hi, lo⟩ := x
  obtain ⟨h1, h2, h3, h4⟩ := ho
  obtain ⟨_, b1, b2⟩ := hw
  simp only at h1 h2 h3 h4 b1 b2
  obtain ⟨n, rfl⟩ := Int.eq_ofNat_of_zero_le (show 0 ≤ W by omega)
  simp only [Int.toNat_natCast] at h3 h4
  have hd : decide (1 ≤ (n : Int) ∧ (n : Int) ≤ 128) = true := decide_eq_true ⟨h1, h2⟩
  have hcut := fun W => cut_any n hi lo W (by omega) (by omega) b1 b2
  simp only [h3, h4] at hcut
  have k0 : (w.alloc (.cells #[.int .i64 (n : Int), .int .u64 hi, .int .u64 lo] 79 (0,0))).drew.cell? ⟨w.heap.size, 0, none⟩ = some (.int .i64 n) := cellOf (w := (w.alloc (.cells #[.int .i64 (n : Int), .int .u64 hi, .int .u64 lo] 79 (0,0))).drew) (heap_alloc_new w _) 0
  have k1 : (w.alloc (.cells #[.int .i64 (n : Int), .int .u64 hi, .int .u64 lo] 79 (0,0))).drew.cell? ⟨w.heap.size, 1, none⟩ = some (.int .u64 hi) := cellOf (w := (w.alloc (.cells #[.int .i64 (n : Int), .int .u64 hi, .int .u64 lo] 79 (0,0))).drew) (heap_alloc_new w _) 1
  have k2 : (w.alloc (.cells #[.int .i64 (n : Int), .int .u64 hi, .int .u64 lo] 79 (0,0))).drew.cell? ⟨w.heap.size, 2, none⟩ = some (.int .u64 lo) := cellOf (w := (w.alloc (.cells #[.int .i64 (n : Int), .int .u64 hi, .int .u64 lo] 79 (0,0))).drew) (heap_alloc_new w _) 2
  have hB : Below w.heap.size w (w.alloc (.cells #[.int .i64 (n : Int), .int .u64 hi, .int .u64 lo] 79 (0,0))).drew := ((Below.refl _ _).alloc (Nat.le_refl _) _).drew
  have hs : w.heap.size < (w.alloc (.cells #[.int .i64 (n : Int), .int .u64 hi, .int .u64 lo] 79 (0,0))).drew.heap.size := by show w.heap.size < (w.alloc _).heap.size; simp
  have HC : Aside _ := hcut
  clear hcut h3 h4
  unfold bitsV at HC
  unfold Num.v
  go_enter Tryz.func40, Tryz.ntmps40
  go_wp2_with fail
  go_region_held3 (fun w' => (w'.cell? ⟨w.heap.size, 0, none⟩ = some (.int .i64 (n : Int)) ∧ w'.cell? ⟨w.heap.size, 1, none⟩ = some (.int .u64 hi) ∧ w'.cell? ⟨w.heap.size, 2, none⟩ = some (.int .u64 lo)) ∧ Below w.heap.size w w' ∧ w.heap.size < w'.heap.size)
    (first | exact ⟨⟨k0, k1, k2⟩, hB, hs⟩ | assumption | exact held_bits (by assumption) hb5)
    ((go_simp; (first
      | (go_at_call 142; refine (wide_any _ _).mono ?_; rintro e w5 ⟨rfl, rfl⟩; rw [hd])
      | (go_at_call 143; refine Calls.mono (HC.out _) ?_; rintro e w5 ⟨rfl, hb5⟩))))
  go_wp2
  go_ret
  rename_i hh
  exact ⟨rfl, hh.2.1⟩

theorem wide_no (x : Int) (h : ¬ (1 ≤ x ∧ x ≤ 128)) (w : World) : Calls Tryz.prog 142 #[.int .i64 x] w fun e w' => e = .returned (.bool false) ∧ w = w' := by
  have := wide_any x w
  rwa [decide_eq_false h] at this
set_option maxHeartbeats 800000 in
theorem check_wide (x : Num) (ho : ¬ (1 ≤ x.W ∧ x.W ≤ 128)) (w : World) : Calls Tryz.prog 40 #[x.v] w fun e w' => e = .returned (.bool false) ∧ Below w.heap.size w w' := by
  obtain ⟨W, hi, lo⟩ := x
  have HW : Aside (∀ w, Calls Tryz.prog 142 #[.int .i64 W] w fun e w' => e = .returned (.bool false) ∧ w = w') := wide_no W ho
  have k0 : (w.alloc (.cells #[.int .i64 W, .int .u64 hi, .int .u64 lo] 79 (0,0))).drew.cell? ⟨w.heap.size, 0, none⟩ = some (.int .i64 W) := cellOf (w := (w.alloc (.cells #[.int .i64 W, .int .u64 hi, .int .u64 lo] 79 (0,0))).drew) (heap_alloc_new w _) 0
  have hB : Below w.heap.size w (w.alloc (.cells #[.int .i64 W, .int .u64 hi, .int .u64 lo] 79 (0,0))) := (Below.refl _ _).alloc (Nat.le_refl _) _
  clear ho
  unfold Num.v
  go_enter Tryz.func40, Tryz.ntmps40
  go_wp2_with fail
  go_quiet ((go_at_call 142; exact Calls.quiet_of_same ((HW.out _).mono (fun e w2 h => ⟨h.1, h.2.symm⟩))))
  go_wp2
  go_ret
  exact ⟨rfl, below_drewN hB _⟩
set_option maxHeartbeats 1600000 in
theorem check_cut (x : Num) (hw : x.wf) (h1 : 1 ≤ x.W) (h2 : x.W ≤ 128) (ho : ¬ (cutHi x.W.toNat x.Hi = x.Hi ∧ cutLo x.W.toNat x.Lo = x.Lo)) (w : World) : Calls Tryz.prog 40 #[x.v] w fun e w' => e = .returned (.bool false) ∧ Below w.heap.size w w' := by
  obtain ⟨W, hi, lo⟩ := x
  obtain ⟨_, b1, b2⟩ := hw
  simp only at h1 h2 ho b1 b2
  obtain ⟨n, rfl⟩ := Int.eq_ofNat_of_zero_le (show 0 ≤ W by omega)
  simp only [Int.toNat_natCast] at ho
  have hd : decide (1 ≤ (n : Int) ∧ (n : Int) ≤ 128) = true := decide_eq_true ⟨h1, h2⟩
  have hcut := fun W => cut_any n hi lo W (by omega) (by omega) b1 b2
  generalize cutHi n hi = a at *
  generalize cutLo n lo = b at *
  have hab : (hi == a && lo == b) = false := by
    by_cases e1 : hi = a
    · by_cases e2 : lo = b
      · exact absurd ⟨e1.symm, e2.symm⟩ ho
      · simp [e2]
    · simp [e1]
  have k0 : (w.alloc (.cells #[.int .i64 (n : Int), .int .u64 hi, .int .u64 lo] 79 (0,0))).drew.cell? ⟨w.heap.size, 0, none⟩ = some (.int .i64 n) := cellOf (w := (w.alloc (.cells #[.int .i64 (n : Int), .int .u64 hi, .int .u64 lo] 79 (0,0))).drew) (heap_alloc_new w _) 0
  have k1 : (w.alloc (.cells #[.int .i64 (n : Int), .int .u64 hi, .int .u64 lo] 79 (0,0))).drew.cell? ⟨w.heap.size, 1, none⟩ = some (.int .u64 hi) := cellOf (w := (w.alloc (.cells #[.int .i64 (n : Int), .int .u64 hi, .int .u64 lo] 79 (0,0))).drew) (heap_alloc_new w _) 1
  have k2 : (w.alloc (.cells #[.int .i64 (n : Int), .int .u64 hi, .int .u64 lo] 79 (0,0))).drew.cell? ⟨w.heap.size, 2, none⟩ = some (.int .u64 lo) := cellOf (w := (w.alloc (.cells #[.int .i64 (n : Int), .int .u64 hi, .int .u64 lo] 79 (0,0))).drew) (heap_alloc_new w _) 2
  have hB : Below w.heap.size w (w.alloc (.cells #[.int .i64 (n : Int), .int .u64 hi, .int .u64 lo] 79 (0,0))).drew := ((Below.refl _ _).alloc (Nat.le_refl _) _).drew
  have hs : w.heap.size < (w.alloc (.cells #[.int .i64 (n : Int), .int .u64 hi, .int .u64 lo] 79 (0,0))).drew.heap.size := by show w.heap.size < (w.alloc _).heap.size; simp
  have HC : Aside _ := hcut
  have HAB : Aside ((hi == a && lo == b) = false) := hab
  clear hcut ho hab
  have heq : ∀ W0 : World, (binOp .eql 79 (.agg #[.int .i64 (n : Int), .int .u64 hi, .int .u64 lo]) (.agg #[.int .i64 (n : Int), .int .u64 a, .int .u64 b])).run Tryz.prog W0 = .ok (.bool false) W0 := by
    intro W0
    have hz := HAB.out
    go_simp
    intro e1 e2
    simp [e1, e2] at hz
  unfold bitsV at HC
  unfold Num.v
  go_enter Tryz.func40, Tryz.ntmps40
  go_wp2_with fail
  go_region_held3 (fun w' => (w'.cell? ⟨w.heap.size, 0, none⟩ = some (.int .i64 (n : Int)) ∧ w'.cell? ⟨w.heap.size, 1, none⟩ = some (.int .u64 hi) ∧ w'.cell? ⟨w.heap.size, 2, none⟩ = some (.int .u64 lo)) ∧ Below w.heap.size w w' ∧ w.heap.size < w'.heap.size)
    (first | exact ⟨⟨k0, k1, k2⟩, hB, hs⟩ | assumption | exact held_bits (by assumption) hb5)
    ((go_simp; (first
      | (go_at_call 142; refine (wide_any _ _).mono ?_; rintro e w5 ⟨rfl, rfl⟩; rw [hd])
      | (go_at_call 143; refine Calls.mono (HC.out _) ?_; rintro e w5 ⟨rfl, hb5⟩))))
  go_wp2
  go_ret
  rename_i hh
  exact ⟨rfl, hh.2.1⟩
/-- Any number. -/
def Num.okB (x : Num) : Bool := decide (1 ≤ x.W ∧ x.W ≤ 128 ∧ cutHi x.W.toNat x.Hi = x.Hi ∧ cutLo x.W.toNat x.Lo = x.Lo)
theorem Num.okB_iff (x : Num) : x.okB = true ↔ x.ok := by unfold Num.okB Num.ok; simp
theorem check_bad (x : Num) (hw : x.wf) (ho : ¬ x.ok) (w : World) : Calls Tryz.prog 40 #[x.v] w fun e w' => e = .returned (.bool false) ∧ Below w.heap.size w w' := by
  by_cases h : 1 ≤ x.W ∧ x.W ≤ 128
  · exact check_cut x hw h.1 h.2 (fun hc => ho ⟨h.1, h.2, hc.1, hc.2⟩) w
  · exact check_wide x h w
theorem check_any (x : Num) (hw : x.wf) (w : World) : Calls Tryz.prog 40 #[x.v] w fun e w' => e = .returned (.bool x.okB) ∧ Below w.heap.size w w' := by
  by_cases h : x.ok
  · rw [x.okB_iff.2 h]; exact check_good x hw h w
  · have e : x.okB = false := by cases hb : x.okB; rfl; exact absurd (x.okB_iff.1 hb) h
    rw [e]; exact check_bad x hw h w
end Go.Proofs.YtmoakgkoahjijaaGreatDoor

/- Numbers of bits, one behind the other: plain Lean about Num, bits and bytes. -/
set_option linter.unusedVariables false
set_option linter.unusedSimpArgs false
namespace Go.Proofs.YtmoakgkoahjijaaGreatDoor
open Go.RowKit PkMath

/-- A number's value, and its bits. -/
def Num.val (x : Num) : Nat := x.Hi.toNat * 18446744073709551616 + x.Lo.toNat
def Num.bits (x : Num) : List Bool := bitsOfNum x.W.toNat x.val
def allBits (l : List Num) : List Bool := l.flatMap Num.bits
theorem Num.bits_length (x : Num) : x.bits.length = x.W.toNat := bitsOfNum_length _ _
theorem Num.halves {x : Num} (hw : x.wf) : hiOf x.val = x.Hi ∧ loOf x.val = x.Lo := by
  obtain ⟨_, h1, h2⟩ := hw
  unfold hiOf loOf Num.val
  constructor <;> omega
theorem Num.val_lt {x : Num} (hw : x.wf) (ho : x.ok) : x.val < 2 ^ x.W.toNat := by
  obtain ⟨W, hi, lo⟩ := x
  obtain ⟨_, h1, h2⟩ := hw
  obtain ⟨o1, o2, o3, o4⟩ := ho
  simp only at h1 h2 o1 o2 o3 o4
  unfold Num.val
  simp only
  obtain ⟨n, rfl⟩ := Int.eq_ofNat_of_zero_le (show 0 ≤ W by omega)
  simp only [Int.toNat_natCast] at *
  unfold cutHi at o3
  unfold cutLo at o4
  by_cases h : n < 64
  · rw [if_pos h] at o3 o4
    have hp : (2 : Int) ^ n = ((2 ^ n : Nat) : Int) := by simp
    have hpos := Nat.two_pow_pos n
    rw [hp] at o4
    have h4 : lo < ((2 ^ n : Nat) : Int) := by rw [← o4]; exact Int.emod_lt_of_pos _ (by omega)
    subst o3
    omega
  · rw [if_neg h] at o3 o4
    have hp : (2 : Int) ^ (n - 64) = ((2 ^ (n - 64) : Nat) : Int) := by simp
    have hpos := Nat.two_pow_pos (n - 64)
    rw [hp] at o3
    have h3 : hi < ((2 ^ (n - 64) : Nat) : Int) := by rw [← o3]; exact Int.emod_lt_of_pos _ (by omega)
    have e : 2 ^ n = 2 ^ (n - 64) * 18446744073709551616 := by
      rw [show (18446744073709551616 : Nat) = 2 ^ 64 by decide, ← Nat.pow_add]
      congr 1
      omega
    rw [e]
    have h5 : hi.toNat + 1 ≤ 2 ^ (n - 64) := by omega
    have h6 : (hi.toNat + 1) * 18446744073709551616 ≤ 2 ^ (n - 64) * 18446744073709551616 := Nat.mul_le_mul_right _ h5
    omega
theorem Num.of_val {x : Num} (hw : x.wf) (ho : x.ok) : numOf x.bits = x.val := numOf_bits_lt _ _ (x.val_lt hw ho)
/-- A number of w bits, out of its value. -/
def mkNum (w v : Nat) : Num := ⟨(w : Int), hiOf v, loOf v⟩
theorem mkNum_wf (w v : Nat) (hw : w ≤ 128) (hv : v < 2 ^ w) : (mkNum w v).wf := by
  obtain ⟨_, h1, h2⟩ := cut_same v w hv hw
  exact ⟨⟨by show -9223372036854775808 ≤ (w : Int); omega, by show (w : Int) ≤ _; omega⟩, h1, h2⟩
theorem mkNum_ok (w v : Nat) (h1 : 1 ≤ w) (hw : w ≤ 128) (hv : v < 2 ^ w) : (mkNum w v).ok := by
  obtain ⟨⟨h2, h3⟩, _⟩ := cut_same v w hv hw
  exact ⟨by show (1 : Int) ≤ (w : Int); omega, by show (w : Int) ≤ 128; omega, h2, h3⟩
theorem mkNum_val (w v : Nat) (h : v < 2 ^ 128) : (mkNum w v).val = v := by
  unfold Num.val mkNum hiOf loOf
  simp only
  omega
theorem mkNum_bits (w v : Nat) (hw : w ≤ 128) (hv : v < 2 ^ w) : (mkNum w v).bits = bitsOfNum w v := by
  unfold Num.bits
  rw [mkNum_val w v (Nat.lt_of_lt_of_le hv (Nat.pow_le_pow_right (by decide) hw))]
  rfl
/-- The number that a window is: its bits are the window. -/
theorem mkNum_win (l : List Bool) (a w : Nat) (hw : w ≤ 128) (h : a + w ≤ l.length) : (mkNum w (numOf (win l a w))).bits = win l a w := by
  have hl := win_length l a w h
  have hlt := numOf_lt (win l a w)
  rw [hl] at hlt
  rw [mkNum_bits _ _ hw hlt]
  have := bits_numOf (win l a w)
  rw [hl] at this
  exact this
theorem Num.mk_self {x : Num} (hw : x.wf) (ho : x.ok) : mkNum x.W.toNat x.val = x := by
  obtain ⟨h1, h2⟩ := Num.halves hw
  unfold mkNum
  rw [h1, h2]
  obtain ⟨o1, _⟩ := ho
  have e : ((x.W.toNat : Nat) : Int) = x.W := Int.toNat_of_nonneg (by omega)
  rw [e]

theorem allBits_nil : allBits [] = [] := rfl
theorem allBits_append (l m : List Num) : allBits (l ++ m) = allBits l ++ allBits m := List.flatMap_append ..
theorem allBits_one (x : Num) : allBits [x] = x.bits := by simp [allBits]
theorem takeN_succ (l : List Num) (k : Nat) (h : k < l.length) : l.take (k + 1) = l.take k ++ [l.getD k zeroNum] := by
  rw [List.take_succ_eq_append_getElem h]
  simp [List.getD_eq_getElem?_getD, List.getElem?_eq_getElem h]
theorem allBits_take_succ (l : List Num) (k : Nat) (h : k < l.length) : allBits (l.take (k + 1)) = allBits (l.take k) ++ (l.getD k zeroNum).bits := by
  rw [takeN_succ l k h, allBits_append, allBits_one]
theorem allBits_len_succ (l : List Num) (k : Nat) (h : k < l.length) : (allBits (l.take (k + 1))).length = (allBits (l.take k)).length + (l.getD k zeroNum).W.toNat := by
  rw [allBits_take_succ l k h, List.length_append, Num.bits_length]
theorem allBits_len_take (l : List Num) (k : Nat) : (allBits (l.take k)).length ≤ (allBits l).length := by
  conv => rhs; rw [← List.take_append_drop k l, allBits_append, List.length_append]
  exact Nat.le_add_right _ _
theorem allBits_split (l : List Num) (k : Nat) (h : k < l.length) : allBits l = allBits (l.take k) ++ ((l.getD k zeroNum).bits ++ allBits (l.drop (k + 1))) := by
  conv => lhs; rw [← List.take_append_drop (k + 1) l, allBits_append, allBits_take_succ l k h, List.append_assoc]
/-- The window of a number within all. -/
theorem allBits_win (l : List Num) (k : Nat) (h : k < l.length) : win (allBits l) (allBits (l.take k)).length (l.getD k zeroNum).W.toNat = (l.getD k zeroNum).bits := by
  conv => lhs; rw [allBits_split l k h]
  unfold win
  rw [List.drop_left, ← Num.bits_length, List.take_left]
/-- Two lists with the same bits have the same windows. -/
theorem win_congr {l m : List Bool} (a w : Nat) (hl : a + w ≤ l.length) (hm : a + w ≤ m.length) (h : ∀ q, q < a + w → l.getD q false = m.getD q false) : win l a w = win m a w := by
  apply list_ext_getD (by rw [win_length _ _ _ hl, win_length _ _ _ hm])
  intro i hi
  rw [win_length _ _ _ hl] at hi
  rw [win_getD _ _ _ _ hi, win_getD _ _ _ _ hi]
  exact h _ (by omega)
theorem win_pack (l : List Bool) (m a w : Nat) (hm : l.length ≤ 8 * m) (h : a + w ≤ l.length) : win (bitsL (pack l m)) a w = win l a w :=
  win_congr a w (by rw [bitsL_length, pack_length]; omega) h (fun q _ => bitsL_pack l m q hm)
theorem numOf_zeros (l : List Bool) (h : ∀ q, l.getD q false = false) : numOf l = 0 := by
  induction l with
  | nil => rfl
  | cons b l ih =>
    have hb : b = false := h 0
    subst hb
    rw [numOf_cons, ih (fun q => h (q + 1))]
    simp
/-- Behind all bits are noughts. -/
theorem win_pack_end (l : List Bool) (m w : Nat) (hm : l.length ≤ 8 * m) : numOf (win (bitsL (pack l m)) l.length w) = 0 := by
  apply numOf_zeros
  intro q
  by_cases hq : q < w
  · rw [win_getD _ _ _ _ hq, bitsL_pack l m _ hm, getD_past _ _ (by omega)]
  · apply getD_past
    unfold win
    simp
    omega
theorem pack_bytes (l : List Bool) (m : Nat) : ∀ j, 0 ≤ (pack l m).getD j 0 ∧ (pack l m).getD j 0 ≤ 255 := by
  intro j
  by_cases h : j < m
  · rw [pack_getD l m j h]
    have := packByte_lt l j
    omega
  · rw [List.getD_eq_getElem?_getD, List.getElem?_eq_none (by rw [pack_length]; omega)]
    exact ⟨by decide, by decide⟩
end Go.Proofs.YtmoakgkoahjijaaGreatDoor
